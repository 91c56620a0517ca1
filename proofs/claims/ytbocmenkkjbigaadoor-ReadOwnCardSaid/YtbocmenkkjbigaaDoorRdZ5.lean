/- The law ReadOwn of the given program answers true for every input: what is told is new memory, each time. No condition beyond the package's variables, which are as the program's text lays them. -/
import Derived.Test.YtbocmenkkjbigaaDoorP0
import Derived.Test.YtbocmenkkjbigaaDoorP1
import Derived.Test.YtbocmenkkjbigaaDoorP2
import Derived.Test.YtbocmenkkjbigaaDoorP3
import Derived.Test.YtbocmenkkjbigaaDoorP4
import Derived.Test.YtbocmenkkjbigaaDoorP5
set_option linter.all false
set_option maxRecDepth 100000
namespace Go.Proofs.YtbocmenkkjbigaaDoor
open Go.ChangeShapes Go.WideShapes Go.ChangeAt Go.RowKit Go.AM
theorem own:ownKnob Tryd.prog.godebug=none:=by kernel_rfl
theorem laidOut:laidOutB Tryd.prog=true:=by kernel_rfl
noncomputable def CT:Nat→Option CFun
 | 6=>some (.code awp)
 | 9=>some (.prim (a4y CT0))
 | 11=>some (.code alv)
 | 12=>some (.code alu)
 | 13=>some (.code aeb)
 | 24=>some (.code als)
 | 25=>some (.code aj4)
 | 26=>some (.code ai1)
 | 27=>some (.prim a9q)
 | 28=>some (.code aj3)
 | 29=>some (.code aj2)
 | 30=>some (.code aj1)
 | 31=>some (.code aj0)
 | 32=>some (.code ajz)
 | 33=>some (.prim apm)
 | _=>none
theorem CT_ok:∀ k c,CT k=some c→abh Tryd.prog (PXf (fun _=>none)) k c:=by
 intro k c h;unfold CT at h;split at h
 ·cases h;exact kw (fun _=>none) RA7_6
 ·cases h;exact auw
 ·cases h;exact kw (fun _=>none) bcs
 ·cases h;exact kw (fun _=>none) bcr
 ·cases h;exact kw (fun _=>none) a5o
 ·cases h;exact kw (fun _=>none) bcq
 ·cases h;exact kw (fun _=>none) a5n
 ·cases h;exact kw (fun _=>none) a5m
 ·cases h;exact atb
 ·cases h;exact kw (fun _=>none) a5l
 ·cases h;exact kw (fun _=>none) a5k
 ·cases h;exact kw (fun _=>none) a5j
 ·cases h;exact kw (fun _=>none) a5i
 ·cases h;exact kw (fun _=>none) a5h
 ·cases h;exact apl
 ·cases h
theorem tl:TL CT:=⟨rfl,rfl,rfl,rfl,rfl,rfl,rfl,rfl,rfl⟩
theorem hP:ajt CT:=a1g rfl
theorem tsm:SamT CT:=by constructor <;> rfl
theorem law_true (a:ByteArray) (_ha:a.size≤maxLen):∃ m H',xh CT m (.fn 6 [] []) [.s (.string a)] 0 []=some (bl true,H'):=by
 obtain ⟨H',h⟩:=a6t hP tsm rfl rfl 0 (A:=[]) (ag _) a;obtain ⟨m,hm⟩:=acu h;exact ⟨m,_,hm⟩
theorem a3c (os:Os) (started:os.Started) (H:Type) (enc:TypeId × Value→H):
 ReturnsInHanded {} Tryd.checked os 6 .any (fun w args=>(Rows.readOwnSpec.pre enc Tryd.prog Tryd.f6 [] false w args∧laidMetH Tryd.prog Rows.readOwnRow.laid w)∧sizedMet enc Tryd.prog Tryd.f6 (OpenSpec.ofChange Rows.readOwnSpec) false w args) (Rows.readOwnSpec.post enc Tryd.prog Tryd.f6 false true false false):=by
 refine returnsInHanded_of_change_and (C:=Tryd.checked) (X:=fun w _=>laidMetH Tryd.prog Rows.readOwnRow.laid w) (fun _ _ _ hh h=>h.of_heap hh) own started (by kernel_rfl) Tryd.func6
  (ChangeSpec.witness_shaped (enc:=enc) (C:=Tryd.checked) (os:=os) (X:=fun w _=>laidMetH Tryd.prog Rows.readOwnRow.laid w) false (World.doorLaid Tryd.prog 400 os) #[.string ⟨#[]⟩] 8 rfl (World.shaped_of_RefB (by kernel_rfl) (by kernel_rfl)) (by kernel_rfl) (by kernel_rfl) (by kernel_rfl) (a3x os _)) ?_
 intro W base args ds gs before hval0 hW hcnd _ hL _;have hval:∀ (j:Nat) t v,Tryd.f6.params[j]?=some t→args[j]?=some v→Value.okWide Tryd.prog W .any base t v:=hval0;have hW':=hW;obtain ⟨p,q,hA0,hV,rfl,hfz,hnd⟩:=hW';have hA:DataW.TrodAll enc Tryd.prog W 0 (fun _=>true) true Tryd.f6.params.toList args.toList ds p:=hA0;rw [Tryd.params6] at hA hval;obtain ⟨v0,vs0,d0,ds0,p0,q0,ea0,ed0,ep0,h0,hA0⟩:=trodAll_cons hA;obtain ⟨en,_,_⟩:=trodAll_nil hA0
 have ha:args=#[v0]:=by
  apply qy;rw [ea0,en]
 have hok0:=hval 0 9 v0 (by simp) (by rw [ha];rfl)
 have hc0:v0.cells.toList=[v0]:=by
  unfold Value.okWide at hok0;rw [Tryd.underlying9] at hok0
  cases v0 <;> first | rfl | exact False.elim hok0
 obtain ⟨us0,hvs0,hvr0⟩:=a05 (ty:=.str) (n:=40) (by kernel_rfl) hc0 h0
 obtain ⟨z0,he0,hz0⟩:=hvs0
 refine ao0 (CP:=CT) (pure':=PXf (fun _=>none)) mixed CT_ok laidOut (by kernel_rfl) (by kernel_rfl) (tb:=4) rfl (by kernel_rfl) Tryd.underlying4 (fun t ht=>?_) (fun ds hl=>?_) hW ⟨[.s (.string z0)],?_,law_true z0 hz0⟩ (fun B o e=>by cases e)
 ·rw [Tryd.params6] at ht;have:t∈[9]:=ht;simp only [nk,yz,asx] at this
  rcases this with rfl <;> exact acd (by kernel_rfl)
 ·rw [Tryd.params6] at hl
  match ds,hl with
  | [e0],_=>rfl
 ·rw [ha];subst he0;exact VRs.cons hvr0 (VRs.nil)
theorem said:Rows.ReadOwnSaid:=
 OpenClaim.holds_of_wide 6 Tryd.f6 rfl rfl rfl rfl rfl rfl rfl ⟨rfl,rfl,rfl,rfl,rfl⟩ rfl rfl rfl rfl rfl (by kernel_rfl) Tryd.func6 (by kernel_rfl)
  (acd (by kernel_rfl)) (by unfold Func.isWrapper;first | (rw [ed (by decide +kernel)];kernel_rfl) | (rw [gu (by decide +kernel)];exact ⟨rfl,rfl⟩))
  (fun os started H enc _=>a3c os started H enc)
theorem own_holds:Rows.ReadOwnCardSaid:=
 Claim7.holds_tied_plain_at .later [] [.data, .data, .data, .sentinel, .sentinel] true (true, "12adf0ebb9d285d22905482893ef80413d775dc0ad01c74e3b4c598610b084b0") true
  said (fun _ h=>by cases h) (by kernel_rfl) (fun _ h=>by cases h) readOwn_row_tie rfl ⟨rfl,rfl⟩ (by kernel_rfl) rfl
  (fun f fn hf hfn=>by
   obtain rfl:f=6:=fo ((show Tryd.prog.funcNamed Rows.readOwnRow.func=some 6 by kernel_rfl).symm.trans hf) |>.symm
   obtain rfl:fn=Tryd.f6:=(fo (Tryd.func6.symm.trans hfn)).symm
   refine ⟨by kernel_rfl,fun j t ht=>?_⟩
   rw [Tryd.params6] at ht
   have hm:t∈[9]:=by
    have:=Array.mem_of_getElem? ht
    simpa using this
   simp only [nk,yz,asx] at hm;rcases hm with rfl
   ·exact (show Tryd.prog.wantsStandIn 9=false by kernel_rfl))
  (by kernel_rfl)
end Go.Proofs.YtbocmenkkjbigaaDoor
