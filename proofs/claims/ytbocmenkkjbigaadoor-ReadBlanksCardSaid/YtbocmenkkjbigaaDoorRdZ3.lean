/- The law ReadBlanks of the given program answers true for every input: blanks, remarks and empty lines change nothing. No condition beyond the package's variables, which are as the program's text lays them. -/
import Derived.Test.YtbocmenkkjbigaaDoorP0
import Derived.Test.YtbocmenkkjbigaaDoorP1
import Derived.Test.YtbocmenkkjbigaaDoorP2
import Derived.Test.YtbocmenkkjbigaaDoorP3
import Derived.Test.YtbocmenkkjbigaaDoorP4
import Derived.Test.YtbocmenkkjbigaaDoorP5
set_option linter.all false
set_option maxRecDepth 100000
namespace Go.Proofs.YtbocmenkkjbigaaDoor
open Go.ChangeShapes Go.WideShapes Go.ChangeAt Go.RowKit Go.AM
theorem own:ownKnob Tryd.prog.godebug=none:=by kernel_rfl
theorem laidOut:laidOutB Tryd.prog=true:=by kernel_rfl
noncomputable def CT:Nat→Option CFun
 | 4=>some (.code asz)
 | 9=>some (.prim (a6a CT0))
 | 11=>some (.code alu)
 | 12=>some (.code als)
 | 13=>some (.code adh)
 | 24=>some (.code alr)
 | 25=>some (.code akb)
 | 26=>some (.code ai6)
 | 27=>some (.prim bah)
 | 28=>some (.code aka)
 | 29=>some (.code aj9)
 | 30=>some (.code aj8)
 | 31=>some (.code aj7)
 | 32=>some (.code aj6)
 | 33=>some (.prim apy)
 | _=>none
theorem CT_ok:∀ k c,CT k=some c→abf Tryd.prog (PXf (fun _=>none)) k c:=by
 intro k c h;unfold CT at h;split at h
 ·cases h;exact kw (fun _=>none) RA8_4
 ·cases h;exact avd
 ·cases h;exact kw (fun _=>none) bdm
 ·cases h;exact kw (fun _=>none) bdl
 ·cases h;exact kw (fun _=>none) a6p
 ·cases h;exact kw (fun _=>none) bdk
 ·cases h;exact kw (fun _=>none) a6o
 ·cases h;exact kw (fun _=>none) a6n
 ·cases h;exact atq
 ·cases h;exact kw (fun _=>none) a6m
 ·cases h;exact kw (fun _=>none) a6l
 ·cases h;exact kw (fun _=>none) a6k
 ·cases h;exact kw (fun _=>none) a6j
 ·cases h;exact kw (fun _=>none) a6i
 ·cases h;exact apx
 ·cases h
theorem tl:TL CT:=⟨rfl,rfl,rfl,rfl,rfl,rfl,rfl,rfl,rfl⟩
theorem hP:aj1 CT:=a18 rfl
theorem tsm:SamT CT:=by constructor <;> rfl
theorem law_true (a:ByteArray) (_ha:a.size≤maxLen) (u1:V) (hu1:∃ l:List Nat,(∀ H,Rd H u1 (l.map I8))∧apz u1):∃ m H',xc CT m (.fn 4 [] []) [.s (.string a),u1] 0 []=some (bl true,H'):=by
 obtain ⟨l,h1,h2⟩:=hu1;obtain ⟨H',h⟩:=av7 hP tsm rfl rfl tl rfl 0 (A:=[]) (af _) a (h1 []) h2;obtain ⟨m,hm⟩:=acv h;exact ⟨m,_,hm⟩
theorem a4d (os:Os) (started:os.Started) (H:Type) (enc:TypeId × Value→H):
 ReturnsInHanded {} Tryd.checked os 4 .any (fun w args=>(Rows.readBlanksSpec.pre enc Tryd.prog Tryd.f4 [] false w args∧laidMetH Tryd.prog Rows.readBlanksRow.laid w)∧sizedMet enc Tryd.prog Tryd.f4 (OpenSpec.ofChange Rows.readBlanksSpec) false w args) (Rows.readBlanksSpec.post enc Tryd.prog Tryd.f4 false true false false):=by
 refine returnsInHanded_of_change_and (C:=Tryd.checked) (X:=fun w _=>laidMetH Tryd.prog Rows.readBlanksRow.laid w) (fun _ _ _ hh h=>h.of_heap hh) own started (by kernel_rfl) Tryd.func4
  (ChangeSpec.witness_shaped (enc:=enc) (C:=Tryd.checked) (os:=os) (X:=fun w _=>laidMetH Tryd.prog Rows.readBlanksRow.laid w) false (World.doorLaid Tryd.prog 400 os) #[.string ⟨#[]⟩,.slice none 0 0] 8 rfl (World.shaped_of_RefB (by kernel_rfl) (by kernel_rfl)) (by kernel_rfl) (by kernel_rfl) (by kernel_rfl) (a4y os _)) ?_
 intro W base args ds gs before hval0 hW hcnd _ hL _;have hval:∀ (j:Nat) t v,Tryd.f4.params[j]?=some t→args[j]?=some v→Value.okWide Tryd.prog W .any base t v:=hval0;have hW':=hW;obtain ⟨p,q,hA0,hV,rfl,hfz,hnd⟩:=hW';have hA:DataW.TrodAll enc Tryd.prog W 0 (fun _=>true) true Tryd.f4.params.toList args.toList ds p:=hA0;rw [Tryd.params4] at hA hval;obtain ⟨v0,vs0,d0,ds0,p0,q0,ea0,ed0,ep0,h0,hA0⟩:=trodAll_cons hA;obtain ⟨v1,vs1,d1,ds1,p1,q1,ea1,ed1,ep1,h1,hA1⟩:=trodAll_cons hA0;obtain ⟨en,_,_⟩:=trodAll_nil hA1
 have ha:args=#[v0,v1]:=by
  apply qp;rw [ea0,ea1,en]
 have hok0:=hval 0 9 v0 (by simp) (by rw [ha];rfl)
 have hc0:v0.cells.toList=[v0]:=by
  unfold Value.okWide at hok0;rw [Tryd.underlying9] at hok0
  cases v0 <;> first | rfl | exact False.elim hok0
 obtain ⟨us0,hvs0,hvr0⟩:=as5 (ty:=.str) (n:=40) (by kernel_rfl) hc0 h0
 obtain ⟨z0,he0,hz0⟩:=hvs0
 have hok1:=hval 1 33 v1 (by simp) (by rw [ha];rfl)
 have hc1:v1.cells.toList=[v1]:=by
  unfold Value.okWide at hok1;rw [Tryd.underlying33] at hok1
  cases v1 <;> first | rfl | exact False.elim hok1
 obtain ⟨us1,hvs1,hvr1⟩:=as5 (ty:=(.sl (.int .u8))) (n:=40) (by kernel_rfl) hc1 h1
 obtain ⟨u1,he1,hu1⟩:=a6y hvs1
 refine apa (CP:=CT) (pure':=PXf (fun _=>none)) mixed CT_ok laidOut (by kernel_rfl) (by kernel_rfl) (tb:=4) rfl (by kernel_rfl) Tryd.underlying4 (fun t ht=>?_) (fun ds hl=>?_) hW ⟨[.s (.string z0),u1],?_,law_true z0 hz0 u1 hu1⟩ (fun B o e=>by cases e)
 ·rw [Tryd.params4] at ht;have:t∈[9,33]:=ht;simp only [jr,yz,ata] at this
  rcases this with rfl | rfl <;> exact acd (by kernel_rfl)
 ·rw [Tryd.params4] at hl
  match ds,hl with
  | [e0,e1],_=>rfl
 ·rw [ha];subst he0 he1;exact VRs.cons hvr0 (VRs.cons hvr1 (VRs.nil))
theorem said:Rows.ReadBlanksSaid:=
 OpenClaim.holds_of_wide 4 Tryd.f4 rfl rfl rfl rfl rfl rfl rfl ⟨rfl,rfl,rfl,rfl,rfl⟩ rfl rfl rfl rfl rfl (by kernel_rfl) Tryd.func4 (by kernel_rfl)
  (acd (by kernel_rfl)) (by unfold Func.isWrapper;first | (rw [cu (by decide +kernel)];kernel_rfl) | (rw [dx (by decide +kernel)];exact ⟨rfl,rfl⟩))
  (fun os started H enc _=>a4d os started H enc)
theorem blanks_holds:Rows.ReadBlanksCardSaid:=
 Claim7.holds_tied_plain_at .later [] [.data, .data, .data, .sentinel, .sentinel] true (true, "12adf0ebb9d285d22905482893ef80413d775dc0ad01c74e3b4c598610b084b0") true
  said (fun _ h=>by cases h) (by kernel_rfl) (fun _ h=>by cases h) readBlanks_row_tie rfl ⟨rfl,rfl⟩ (by kernel_rfl) rfl
  (fun f fn hf hfn=>by
   obtain rfl:f=4:=gm ((show Tryd.prog.funcNamed Rows.readBlanksRow.func=some 4 by kernel_rfl).symm.trans hf) |>.symm
   obtain rfl:fn=Tryd.f4:=(gm (Tryd.func4.symm.trans hfn)).symm
   refine ⟨by kernel_rfl,fun j t ht=>?_⟩
   rw [Tryd.params4] at ht
   have hm:t∈[9,33]:=by
    have:=Array.mem_of_getElem? ht
    simpa using this
   simp only [jr,yz,ata] at hm
   rcases hm with rfl | rfl
   ·exact (show Tryd.prog.wantsStandIn 9=false by kernel_rfl)
   ·exact (show Tryd.prog.wantsStandIn 33=false by kernel_rfl))
  (by kernel_rfl)
end Go.Proofs.YtbocmenkkjbigaaDoor
