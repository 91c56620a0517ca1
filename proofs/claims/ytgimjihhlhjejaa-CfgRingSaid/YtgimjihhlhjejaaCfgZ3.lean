/- The law CfgRing of the given program answers true for every input: of a row of blocks that is closed to a ring just those are in Loops that stand in the ring. No condition. -/
import Derived.Test.YtgimjihhlhjejaaP0
import Derived.Test.YtgimjihhlhjejaaP1
import Derived.Test.YtgimjihhlhjejaaP2
import Derived.Test.YtgimjihhlhjejaaP3
import Derived.Test.YtgimjihhlhjejaaP4
import Derived.Test.YtgimjihhlhjejaaP5
import Derived.Test.YtgimjihhlhjejaaP6
set_option linter.all false
set_option maxRecDepth 100000
namespace Go.Proofs.Ytgimjihhlhjejaa
open Go.ChangeShapes Go.WideShapes Go.ChangeAt Go.RowKit Go.AM
theorem own:ownKnob Try.prog.godebug=none:=by kernel_rfl
theorem laidOut:laidOutB Try.prog=true:=by kernel_rfl
def CT:Nat→Option CFun
 | 6=>some (.code s_f6)
 | 11=>some (.prim (primC (bl true)))
 | 13=>some (.code s_f13)
 | 15=>some (.code s_f15)
 | 17=>some (.code s_f17)
 | 21=>some (.code s_f21)
 | 22=>some (.prim sortG)
 | 23=>some (.code s_f23)
 | 24=>some (.code s_f24)
 | 25=>some (.code s_f25)
 | 28=>some (.code s_f28)
 | 31=>some (.code s_f31)
 | 32=>some (.code s_f32)
 | 33=>some (.code s_f33)
 | 34=>some (.code s_f34)
 | 47=>some (.code s_f47)
 | 48=>some (.code s_f48)
 | 49=>some (.code s_f49)
 | 50=>some (.code s_f50)
 | 51=>some (.code s_f51)
 | 52=>some (.code s_f52)
 | 53=>some (.code s_f53)
 | 60=>some (.code s_f60)
 | 61=>some (.code s_f61)
 | 62=>some (.code s_f62)
 | 65=>some (.code s_f65)
 | _=>none
theorem CT_ok:∀ k c,CT k=some c→FunOk Try.prog (PXf (fun _=>none)) k c:=by
 intro k c h
 unfold CT at h
 split at h
 ·cases h;exact funOk_f (fun _=>none) GA7_6
 ·cases h;exact tells_prim
 ·cases h;exact funOk_f (fun _=>none) GA2_13
 ·cases h;exact funOk_f (fun _=>none) GA5_15
 ·cases h;exact funOk_f (fun _=>none) GA7_17
 ·cases h;exact funOk_f (fun _=>none) GA2_21
 ·cases h;exact sort_prim
 ·cases h;exact funOk_f (fun _=>none) GA1_23
 ·cases h;exact funOk_f (fun _=>none) GA1_24
 ·cases h;exact funOk_f (fun _=>none) GA5_25
 ·cases h;exact funOk_f (fun _=>none) GA2_28
 ·cases h;exact funOk_f (fun _=>none) GA1_31
 ·cases h;exact funOk_f (fun _=>none) GA5_32
 ·cases h;exact funOk_f (fun _=>none) GA5_33
 ·cases h;exact funOk_f (fun _=>none) GA5_34
 ·cases h;exact funOk_f (fun _=>none) GA1_47
 ·cases h;exact funOk_f (fun _=>none) GA1_48
 ·cases h;exact funOk_f (fun _=>none) GA1_49
 ·cases h;exact funOk_f (fun _=>none) GA5_50
 ·cases h;exact funOk_f (fun _=>none) GA5_51
 ·cases h;exact funOk_f (fun _=>none) GA5_52
 ·cases h;exact funOk_f (fun _=>none) GA5_53
 ·cases h;exact funOk_f (fun _=>none) GA1_60
 ·cases h;exact funOk_f (fun _=>none) GA5_61
 ·cases h;exact funOk_f (fun _=>none) GA5_62
 ·cases h;exact funOk_f (fun _=>none) GA5_65
 ·cases h
theorem cg:CG CT:=⟨rfl,rfl,rfl,rfl,rfl,rfl,rfl,rfl⟩
theorem co:CO CT:=⟨cg,rfl,rfl,rfl⟩
theorem cz:CZ CT:=⟨co,⟨⟨cg,rfl,rfl,rfl,rfl,rfl,rfl,rfl,rfl⟩,rfl,rfl,rfl⟩,rfl⟩
theorem law_true (n:Int) (hn:IntKind.u8.min≤n∧n≤IntKind.u8.max) (b:Int) (hb:IntKind.u8.min≤b∧b≤IntKind.u8.max):∃ m H',callN CT m (.fn 6 [] []) [.s (.int .u8 n),.s (.int .u8 b)] 0 []=some (bl true,H'):=by
 have e1:IntKind.u8.min=0:=by decide
 have e2:IntKind.u8.max=255:=by decide
 rw [e1,e2] at hn hb
 obtain ⟨H',h⟩:=ring_law cz rfl rfl (fun base H=>tells_fun rfl base H) 0 [] (Nat.le_refl _) n b hn.1 (by omega) hb.1 (by omega)
 obtain ⟨m,hm⟩:=callW_ex h
 exact ⟨m,_,hm⟩
theorem f_lifted (os:Os) (started:os.Started) (H:Type) (enc:TypeId × Value→H):
 ReturnsInHanded {} Try.checked os 6 .any (Rows.cfgRingSpec.pre6 enc Try.prog Try.f6 Rows.cfgRingRow.domain false) (Rows.cfgRingSpec.post enc Try.prog Try.f6 false true false false):=by
 refine returnsInHanded_of_change (C:=Try.checked) own started (by kernel_rfl) Try.func6
  (ChangeSpec.witness6 (enc:=enc) (C:=Try.checked) false ⟨#[],#[.int .u8 0,.int .u8 0],[]⟩ 8 (by kernel_rfl) (by kernel_rfl) (by kernel_rfl) (by kernel_rfl)) ?_
 intro W base args ds gs before hval0 hW hcnd _
 have hval:∀ (j:Nat) t v,Try.f6.params[j]?=some t→args[j]?=some v→Value.okWide Try.prog W .any base t v:=hval0
 have hW':=hW
 obtain ⟨p,q,hA0,hV,rfl,hfz,hnd⟩:=hW'
 have hA:DataW.TrodAll enc Try.prog W 0 (fun _=>true) true Try.f6.params.toList args.toList ds p:=hA0
 rw [Try.params6] at hA hval
 obtain ⟨v0,vs0,d0,ds0,p0,q0,ea0,ed0,ep0,h0,hA0⟩:=trodAll_cons hA
 obtain ⟨v1,vs1,d1,ds1,p1,q1,ea1,ed1,ep1,h1,hA1⟩:=trodAll_cons hA0
 obtain ⟨en,_,_⟩:=trodAll_nil hA1
 have ha:args=#[v0,v1]:=by
  apply Array.ext'
  rw [ea0,ea1,en]
 have hok0:=hval 0 5 v0 (by simp) (by rw [ha];rfl)
 have hc0:v0.cells.toList=[v0]:=by
  unfold Value.okWide at hok0
  rw [Try.underlying5] at hok0
  cases v0 <;> first | rfl | exact False.elim hok0
 obtain ⟨us0,hvs0,hvr0⟩:=read_arg (ty:=(.int .u8)) (n:=20) (by kernel_rfl) hc0 h0
 obtain ⟨z0,he0,hz0⟩:=hvs0
 have hok1:=hval 1 5 v1 (by simp) (by rw [ha];rfl)
 have hc1:v1.cells.toList=[v1]:=by
  unfold Value.okWide at hok1
  rw [Try.underlying5] at hok1
  cases v1 <;> first | rfl | exact False.elim hok1
 obtain ⟨us1,hvs1,hvr1⟩:=read_arg (ty:=(.int .u8)) (n:=20) (by kernel_rfl) hc1 h1
 obtain ⟨z1,he1,hz1⟩:=hvs1
 refine law_contract (CP:=CT) (pure':=PXf (fun _=>none)) mixed CT_ok laidOut (by kernel_rfl) (by kernel_rfl) (tb:=4) rfl (by kernel_rfl) Try.underlying4 (fun t ht=>?_) (fun ds hl=>?_) hW ⟨[.s (.int .u8 z0),.s (.int .u8 z1)],?_,law_true z0 hz0 z1 hz1⟩ (fun B o e=>by cases e)
 ·rw [Try.params6] at ht
  have:t∈[5,5]:=ht
  simp only [List.mem_cons,List.not_mem_nil,or_false] at this
  rcases this with rfl | rfl <;> exact of_decide_eq_true (by kernel_rfl)
 ·rw [Try.params6] at hl
  match ds,hl with
  | [e0,e1],_=>rfl
 ·rw [ha]
  subst he0 he1
  exact VRs.cons hvr0 (VRs.cons hvr1 (VRs.nil))
theorem said:Rows.CfgRingSaid:=
 OpenClaim.holds_of_wide 6 Try.f6 rfl rfl rfl rfl rfl rfl rfl ⟨rfl,rfl,rfl,rfl,rfl⟩ rfl rfl rfl rfl rfl (by kernel_rfl) Try.func6 (by kernel_rfl)
  (of_decide_eq_true (by kernel_rfl)) (by unfold Func.isWrapper;first | (rw [if_pos (by decide +kernel)];kernel_rfl) | (rw [if_neg (by decide +kernel)];exact ⟨rfl,rfl⟩))
  (fun os started H enc _=>f_lifted os started H enc)
theorem ring_holds:Rows.CfgRingSaid:=said
end Go.Proofs.Ytgimjihhlhjejaa
