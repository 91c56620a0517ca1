/- The law ReadKnown of the given program answers true for every input: the known texts are read as they ought to be, and the wrong ones are told where they are wrong. No condition beyond the package's variables, which are as the program's text lays them. -/
import Derived.Test.YtbocmenkkjbigaaDoorP0
import Derived.Test.YtbocmenkkjbigaaDoorP1
import Derived.Test.YtbocmenkkjbigaaDoorP2
import Derived.Test.YtbocmenkkjbigaaDoorP3
import Derived.Test.YtbocmenkkjbigaaDoorP4
import Derived.Test.YtbocmenkkjbigaaDoorP5
set_option linter.all false
set_option maxRecDepth 100000
namespace Go.Proofs.YtbocmenkkjbigaaDoor
open Go.ChangeShapes Go.WideShapes Go.ChangeAt Go.RowKit Go.AM
theorem own:ownKnob Tryd.prog.godebug=none:=by kernel_rfl
theorem laidOut:laidOutB Tryd.prog=true:=by kernel_rfl
noncomputable def CT:Nat→Option CFun
 | 7=>some (.code auj)
 | 9=>some (.prim (a4z CT0))
 | 11=>some (.code alo)
 | 12=>some (.code aln)
 | 13=>some (.code ad6)
 | 14=>some (.code ahs)
 | 24=>some (.code alm)
 | 25=>some (.code aj5)
 | 26=>some (.code ai3)
 | 27=>some (.prim a9n)
 | 28=>some (.code aj4)
 | 29=>some (.code aj3)
 | 30=>some (.code aj2)
 | 31=>some (.code aj1)
 | 32=>some (.code aj0)
 | 33=>some (.prim api)
 | _=>none
theorem CT_ok:∀ k c,CT k=some c→aba Tryd.prog (PXf (fun _=>none)) k c:=by
 intro k c h;unfold CT at h;split at h
 ·cases h;exact ko (fun _=>none) RA9_7
 ·cases h;exact aus
 ·cases h;exact ko (fun _=>none) bct
 ·cases h;exact ko (fun _=>none) bcs
 ·cases h;exact ko (fun _=>none) a5p
 ·cases h;exact ko (fun _=>none) bcq
 ·cases h;exact ko (fun _=>none) bcr
 ·cases h;exact ko (fun _=>none) a5o
 ·cases h;exact ko (fun _=>none) a5n
 ·cases h;exact as8
 ·cases h;exact ko (fun _=>none) a5m
 ·cases h;exact ko (fun _=>none) a5l
 ·cases h;exact ko (fun _=>none) a5k
 ·cases h;exact ko (fun _=>none) a5j
 ·cases h;exact ko (fun _=>none) a5i
 ·cases h;exact aph
 ·cases h
theorem tl:TL CT:=⟨rfl,rfl,rfl,rfl,rfl,rfl,rfl,rfl,rfl⟩
theorem hP:aha CT:=a1d rfl
theorem tsm:SamT CT:=by constructor <;> rfl
theorem law_true:∃ m H',w9 CT m (.fn 7 [] []) [] 0 []=some (bl true,H'):=by
 obtain ⟨H',h⟩:=ax8 hP tsm rfl rfl rfl 0 (A:=[]) (ag _);obtain ⟨m,hm⟩:=acn h;exact ⟨m,_,hm⟩
theorem a3d (os:Os) (started:os.Started) (H:Type) (enc:TypeId × Value→H):
 ReturnsInHanded {} Tryd.checked os 7 .any (fun w args=>(Rows.readKnownSpec.pre enc Tryd.prog Tryd.f7 [] false w args∧laidMetH Tryd.prog Rows.readKnownRow.laid w)∧sizedMet enc Tryd.prog Tryd.f7 (OpenSpec.ofChange Rows.readKnownSpec) false w args) (Rows.readKnownSpec.post enc Tryd.prog Tryd.f7 false true false false):=by
 refine returnsInHanded_of_change_and (C:=Tryd.checked) (X:=fun w _=>laidMetH Tryd.prog Rows.readKnownRow.laid w) (fun _ _ _ hh h=>h.of_heap hh) own started (by kernel_rfl) Tryd.func7
  (ChangeSpec.witness_shaped (enc:=enc) (C:=Tryd.checked) (os:=os) (X:=fun w _=>laidMetH Tryd.prog Rows.readKnownRow.laid w) false (World.doorLaid Tryd.prog 400 os) #[] 8 rfl (World.shaped_of_RefB (by kernel_rfl) (by kernel_rfl)) (by kernel_rfl) (by kernel_rfl) (by kernel_rfl) (a3y os _)) ?_
 intro W base args ds gs before hval0 hW hcnd _ hL _;have hval:∀ (j:Nat) t v,Tryd.f7.params[j]?=some t→args[j]?=some v→Value.okWide Tryd.prog W .any base t v:=hval0;have hW':=hW;obtain ⟨p,q,hA0,hV,rfl,hfz,hnd⟩:=hW';have hA:DataW.TrodAll enc Tryd.prog W 0 (fun _=>true) true Tryd.f7.params.toList args.toList ds p:=hA0;rw [Tryd.params7] at hA hval;obtain ⟨en,_,_⟩:=trodAll_nil hA
 have ha:args=#[]:=by
  exact qp en
 refine aot (CP:=CT) (pure':=PXf (fun _=>none)) mixed CT_ok laidOut (by kernel_rfl) (by kernel_rfl) (tb:=4) rfl (by kernel_rfl) Tryd.underlying4 (fun t ht=>?_) (fun ds hl=>?_) hW ⟨[],?_,law_true ⟩ (fun B o e=>by cases e)
 ·rw [Tryd.params7] at ht;cases ht
 ·rw [Tryd.params7] at hl
  match ds,hl with
  | [],_=>rfl
 ·rw [ha];exact VRs.nil
theorem said:Rows.ReadKnownSaid:=
 OpenClaim.holds_of_wide 7 Tryd.f7 rfl rfl rfl rfl rfl rfl rfl ⟨rfl,rfl,rfl,rfl,rfl⟩ rfl rfl rfl rfl rfl (by kernel_rfl) Tryd.func7 (by kernel_rfl)
  (ab6 (by kernel_rfl)) (by unfold Func.isWrapper;first | (rw [fe (by decide +kernel)];kernel_rfl) | (rw [ic (by decide +kernel)];exact ⟨rfl,rfl⟩))
  (fun os started H enc _=>a3d os started H enc)
theorem known_holds:Rows.ReadKnownCardSaid:=
 Claim7.holds_tied_plain_at .later [] [.data, .data, .data, .sentinel, .sentinel] true (true, "12adf0ebb9d285d22905482893ef80413d775dc0ad01c74e3b4c598610b084b0") true
  said (fun _ h=>by cases h) (by kernel_rfl) (fun _ h=>by cases h) readKnown_row_tie rfl ⟨rfl,rfl⟩ (by kernel_rfl) rfl
  (fun f fn hf hfn=>by
   obtain rfl:f=7:=fu ((show Tryd.prog.funcNamed Rows.readKnownRow.func=some 7 by kernel_rfl).symm.trans hf) |>.symm
   obtain rfl:fn=Tryd.f7:=(fu (Tryd.func7.symm.trans hfn)).symm
   refine ⟨by kernel_rfl,fun j t ht=>?_⟩
   rw [Tryd.params7] at ht;simp at ht)
  (by kernel_rfl)
end Go.Proofs.YtbocmenkkjbigaaDoor
