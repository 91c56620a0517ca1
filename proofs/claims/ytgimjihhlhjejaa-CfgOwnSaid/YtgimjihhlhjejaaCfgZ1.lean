/- The law CfgOwn of the given program answers true for every input: what Of and Uses tell is new memory, each time. No condition. -/
import Derived.Test.YtgimjihhlhjejaaP0
import Derived.Test.YtgimjihhlhjejaaP1
import Derived.Test.YtgimjihhlhjejaaP2
import Derived.Test.YtgimjihhlhjejaaP3
import Derived.Test.YtgimjihhlhjejaaP4
import Derived.Test.YtgimjihhlhjejaaP5
set_option linter.all false
set_option maxRecDepth 100000
namespace Go.Proofs.Ytgimjihhlhjejaa
open Go.ChangeShapes Go.WideShapes Go.ChangeAt Go.RowKit Go.AM
theorem own:ownKnob Try.prog.godebug=none:=by kernel_rfl
theorem laidOut:laidOutB Try.prog=true:=by kernel_rfl
def CT:Nat→Option CFun
 | 4=>some (.code s_f4)
 | 8=>some (.code s_f8)
 | 11=>some (.prim (primC (bl true)))
 | 12=>some (.code s_f12)
 | 13=>some (.code s_f13)
 | 14=>some (.code s_f14)
 | 19=>some (.code s_f19)
 | 21=>some (.code s_f21)
 | 22=>some (.prim sortG)
 | 23=>some (.code s_f23)
 | 24=>some (.code s_f24)
 | 26=>some (.code s_f26)
 | 27=>some (.code s_f27)
 | 28=>some (.code s_f28)
 | 31=>some (.code s_f31)
 | 35=>some (.code s_f35)
 | 47=>some (.code s_f47)
 | 48=>some (.code s_f48)
 | 49=>some (.code s_f49)
 | 60=>some (.code s_f60)
 | _=>none
theorem CT_ok:∀ k c,CT k=some c→FunOk Try.prog (PXf (fun _=>none)) k c:=by
 intro k c h
 unfold CT at h
 split at h
 ·cases h;exact funOk_f (fun _=>none) GA4_4
 ·cases h;exact funOk_f (fun _=>none) GA3_8
 ·cases h;exact tells_prim
 ·cases h;exact funOk_f (fun _=>none) GA2_12
 ·cases h;exact funOk_f (fun _=>none) GA2_13
 ·cases h;exact funOk_f (fun _=>none) GA2_14
 ·cases h;exact funOk_f (fun _=>none) GA3_19
 ·cases h;exact funOk_f (fun _=>none) GA2_21
 ·cases h;exact sort_prim
 ·cases h;exact funOk_f (fun _=>none) GA1_23
 ·cases h;exact funOk_f (fun _=>none) GA1_24
 ·cases h;exact funOk_f (fun _=>none) GA3_26
 ·cases h;exact funOk_f (fun _=>none) GA3_27
 ·cases h;exact funOk_f (fun _=>none) GA2_28
 ·cases h;exact funOk_f (fun _=>none) GA1_31
 ·cases h;exact funOk_f (fun _=>none) GA3_35
 ·cases h;exact funOk_f (fun _=>none) GA1_47
 ·cases h;exact funOk_f (fun _=>none) GA1_48
 ·cases h;exact funOk_f (fun _=>none) GA1_49
 ·cases h;exact funOk_f (fun _=>none) GA1_60
 ·cases h
theorem cg:CG CT:=⟨rfl,rfl,rfl,rfl,rfl,rfl,rfl,rfl⟩
theorem co:CO CT:=⟨cg,rfl,rfl,rfl⟩
theorem cu:CU CT:=⟨rfl,rfl,rfl,rfl,rfl⟩
theorem law_true (u:V) (hu:∃ (nm:ByteArray) (pv bv:V) (bs:List BlkD),u=.agg (fnC nm pv bv)∧pv.one=true∧(∀ H,RdBlks H bv bs)∧∀ b∈bs,b.n=0→b.labs=[]) (w:V) (hw:∃ (x:InsC) (l:List ByteArray),w=.agg x.cells∧(∀ H,Rd H x.av (l.map S))∧Wide1 x.av∧x.lv.one=true∧l.length < 2 ^ 63):∃ m H',callN CT m (.fn 4 [] []) [u,w] 0 []=some (bl true,H'):=by
 obtain ⟨nm,pv,bv,bs,rfl,h1,h2,h3⟩:=hu
 obtain ⟨x,l,rfl,g1,g2,g3,g4⟩:=hw
 obtain ⟨H',h⟩:=own_law co cu rfl rfl rfl (fun base H=>tells_fun rfl base H) 0 [] (Nat.le_refl _) h1 (h2 []) h3 x l (g1 []) g2 g3 g4
 obtain ⟨m,hm⟩:=callW_ex h
 exact ⟨m,_,hm⟩
theorem f_lifted (os:Os) (started:os.Started) (H:Type) (enc:TypeId × Value→H):
 ReturnsInHanded {} Try.checked os 4 .any (Rows.cfgOwnSpec.pre6 enc Try.prog Try.f4 Rows.cfgOwnRow.domain false) (Rows.cfgOwnSpec.post enc Try.prog Try.f4 false true false false):=by
 refine returnsInHanded_of_change (C:=Try.checked) own started (by kernel_rfl) Try.func4
  (ChangeSpec.witness6 (enc:=enc) (C:=Try.checked) false ⟨#[],#[.agg #[.string ⟨#[]⟩,.slice none 0 0,.slice none 0 0],.agg #[.int .u8 0,.string ⟨#[]⟩,.string ⟨#[]⟩,.string ⟨#[]⟩,.int .i64 0,.string ⟨#[]⟩,.slice none 0 0,.slice none 0 0]],[]⟩ 8 (by kernel_rfl) (by kernel_rfl) (by kernel_rfl) (by kernel_rfl)) ?_
 intro W base args ds gs before hval0 hW hcnd _
 have hval:∀ (j:Nat) t v,Try.f4.params[j]?=some t→args[j]?=some v→Value.okWide Try.prog W .any base t v:=hval0
 have hW':=hW
 obtain ⟨p,q,hA0,hV,rfl,hfz,hnd⟩:=hW'
 have hA:DataW.TrodAll enc Try.prog W 0 (fun _=>true) true Try.f4.params.toList args.toList ds p:=hA0
 rw [Try.params4] at hA hval
 obtain ⟨v0,vs0,d0,ds0,p0,q0,ea0,ed0,ep0,h0,hA0⟩:=trodAll_cons hA
 obtain ⟨v1,vs1,d1,ds1,p1,q1,ea1,ed1,ep1,h1,hA1⟩:=trodAll_cons hA0
 obtain ⟨en,_,_⟩:=trodAll_nil hA1
 have ha:args=#[v0,v1]:=by
  apply Array.ext'
  rw [ea0,ea1,en]
 have hok0:=hval 0 32 v0 (by simp) (by rw [ha];rfl)
 have hc0:∃ vs,v0=.agg vs:=by
  unfold Value.okWide at hok0
  rw [Try.underlying32] at hok0
  obtain ⟨cs,rfl,_⟩:=hok0
  exact ⟨cs,rfl⟩
 obtain ⟨us0,hvs0,hvr0⟩:=read_arg (ty:=tFunc) (n:=20) (by kernel_rfl) hc0 h0
 obtain ⟨u0,he0,hu0⟩:=func_of hvs0
 have hok1:=hval 1 25 v1 (by simp) (by rw [ha];rfl)
 have hc1:∃ vs,v1=.agg vs:=by
  unfold Value.okWide at hok1
  rw [Try.underlying25] at hok1
  obtain ⟨cs,rfl,_⟩:=hok1
  exact ⟨cs,rfl⟩
 obtain ⟨us1,hvs1,hvr1⟩:=read_arg (ty:=tInstr) (n:=20) (by kernel_rfl) hc1 h1
 obtain ⟨u1,he1,hu1⟩:=instr_of hvs1
 refine law_contract (CP:=CT) (pure':=PXf (fun _=>none)) mixed CT_ok laidOut (by kernel_rfl) (by kernel_rfl) (tb:=4) rfl (by kernel_rfl) Try.underlying4 (fun t ht=>?_) (fun ds hl=>?_) hW ⟨[u0,u1],?_,law_true u0 hu0 u1 hu1⟩ (fun B o e=>by cases e)
 ·rw [Try.params4] at ht
  have:t∈[32,25]:=ht
  simp only [List.mem_cons,List.not_mem_nil,or_false] at this
  rcases this with rfl | rfl <;> exact of_decide_eq_true (by kernel_rfl)
 ·rw [Try.params4] at hl
  match ds,hl with
  | [e0,e1],_=>rfl
 ·rw [ha]
  subst he0 he1
  exact VRs.cons hvr0 (VRs.cons hvr1 (VRs.nil))
theorem said:Rows.CfgOwnSaid:=
 OpenClaim.holds_of_wide 4 Try.f4 rfl rfl rfl rfl rfl rfl rfl ⟨rfl,rfl,rfl,rfl,rfl⟩ rfl rfl rfl rfl rfl (by kernel_rfl) Try.func4 (by kernel_rfl)
  (of_decide_eq_true (by kernel_rfl)) (by unfold Func.isWrapper;first | (rw [if_pos (by decide +kernel)];kernel_rfl) | (rw [if_neg (by decide +kernel)];exact ⟨rfl,rfl⟩))
  (fun os started H enc _=>f_lifted os started H enc)
theorem own_holds:Rows.CfgOwnSaid:=said
end Go.Proofs.Ytgimjihhlhjejaa
