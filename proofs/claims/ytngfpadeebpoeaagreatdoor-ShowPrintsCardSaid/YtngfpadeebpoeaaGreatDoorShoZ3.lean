/- The law ShowPrints of the given program answers true for every input: what is told is what the document's own Print tells, and what is handed in stays. No condition beyond the package's variables, which are as the program's text lays them. -/
import Derived.Test.YtngfpadeebpoeaaGreatDoorP0
import Derived.Test.YtngfpadeebpoeaaGreatDoorP1
import Derived.Test.YtngfpadeebpoeaaGreatDoorP2
import Derived.Test.YtngfpadeebpoeaaGreatDoorP3
import Derived.Test.YtngfpadeebpoeaaGreatDoorP4
import Derived.Test.YtngfpadeebpoeaaGreatDoorP5
import Derived.Test.YtngfpadeebpoeaaGreatDoorP6
set_option linter.all false
set_option maxRecDepth 100000
namespace Go.Proofs.YtngfpadeebpoeaaGreatDoor
open Go.ChangeShapes Go.WideShapes Go.ChangeAt Go.RowKit Go.AM
theorem own:ownKnob Tryz.prog.godebug=none:=by kernel_rfl
theorem laidOut:laidOutB Tryz.prog=true:=by kernel_rfl
def CT:Nat→Option CFun
 | 3=>some (.code a1f)
 | 7=>some (.code axb)
 | 8=>some (.code a7b)
 | 9=>some (.code a6e)
 | 10=>some (.code aeu)
 | 11=>some (.code ahf)
 | 12=>some (.code apv)
 | 15=>some (.code ag8)
 | 16=>some (.code ag7)
 | 17=>some (.code apu)
 | 18=>some (.code an2)
 | 19=>some (.code ait)
 | 20=>some (.prim azj)
 | 21=>some (.code apt)
 | 22=>some (.code aps)
 | 23=>some (.code an1)
 | 24=>some (.prim bes)
 | 25=>some (.code aj1)
 | 26=>some (.code apr)
 | 27=>some (.code uo)
 | 28=>some (.code an0)
 | 29=>some (.code anz)
 | 35=>some (.code apq)
 | 37=>some (.code aj0)
 | 44=>some (.code ajz)
 | 52=>some (.code aim)
 | 53=>some (.prim azk)
 | 54=>some (.code anx)
 | 55=>some (.code anw)
 | 56=>some (.code anv)
 | 57=>some (.code anu)
 | 58=>some (.code ant)
 | 59=>some (.code anr)
 | 60=>some (.code ajy)
 | 61=>some (.code anq)
 | 62=>some (.code anp)
 | 63=>some (.code ano)
 | 64=>some (.code ann)
 | 65=>some (.code anm)
 | 66=>some (.code anl)
 | 67=>some (.code ank)
 | 68=>some (.code anj)
 | 69=>some (.prim aye)
 | 70=>some (.prim awn)
 | 73=>some (.code ajx)
 | 74=>some (.code alj)
 | 75=>some (.code alh)
 | 76=>some (.code ag0)
 | 92=>some (.code ajw)
 | 93=>some (.code ani)
 | 94=>some (.code ak9)
 | 95=>some (.code anh)
 | 96=>some (.code apm)
 | 100=>some (.code aet)
 | 102=>some (.code aes)
 | 104=>some (.code aec)
 | 120=>some (.code afy)
 | 122=>some (.code adf)
 | 123=>some (.code aa4)
 | 135=>some (.code acn)
 | 136=>some (.code ade)
 | 137=>some (.code aer)
 | 140=>some (.code ahc)
 | 146=>some (.code zg)
 | 147=>some (.code ahb)
 | 148=>some (.code aha)
 | 149=>some (.code ag9)
 | 168=>some (.code aeb)
 | _=>none
theorem CT_ok:∀ k c,CT k=some c→aej Tryz.prog (PXf (fun _=>none)) k c:=by
 intro k c h;unfold CT at h;split at h
 ·cases h;exact j6 (fun _=>none) SA7_3
 ·cases h;exact j6 (fun _=>none) SA1_7
 ·cases h;exact j6 (fun _=>none) SA4_8
 ·cases h;exact j6 (fun _=>none) SA7_9
 ·cases h;exact j6 (fun _=>none) bj0
 ·cases h;exact j6 (fun _=>none) bjd
 ·cases h;exact j6 (fun _=>none) bi5
 ·cases h;exact j6 (fun _=>none) bka
 ·cases h;exact j6 (fun _=>none) bj3
 ·cases h;exact j6 (fun _=>none) bjz
 ·cases h;exact j6 (fun _=>none) bjy
 ·cases h;exact j6 (fun _=>none) bjx
 ·cases h;exact a2y
 ·cases h;exact j6 (fun _=>none) bjw
 ·cases h;exact j6 (fun _=>none) bjv
 ·cases h;exact j6 (fun _=>none) bju
 ·cases h;exact bam
 ·cases h;exact j6 (fun _=>none) bjc
 ·cases h;exact j6 (fun _=>none) bjb
 ·cases h;exact j6 (fun _=>none) bja
 ·cases h;exact j6 (fun _=>none) bi4
 ·cases h;exact j6 (fun _=>none) bi0
 ·cases h;exact j6 (fun _=>none) bj9
 ·cases h;exact j6 (fun _=>none) bj2
 ·cases h;exact j6 (fun _=>none) bj1
 ·cases h;exact j6 (fun _=>none) bjt
 ·cases h;exact a3i
 ·cases h;exact j6 (fun _=>none) bjs
 ·cases h;exact j6 (fun _=>none) bjr
 ·cases h;exact j6 (fun _=>none) bjq
 ·cases h;exact j6 (fun _=>none) bjp
 ·cases h;exact j6 (fun _=>none) bjo
 ·cases h;exact j6 (fun _=>none) bjn
 ·cases h;exact j6 (fun _=>none) bjm
 ·cases h;exact j6 (fun _=>none) bjl
 ·cases h;exact j6 (fun _=>none) bjk
 ·cases h;exact j6 (fun _=>none) bjj
 ·cases h;exact j6 (fun _=>none) bji
 ·cases h;exact j6 (fun _=>none) bjh
 ·cases h;exact j6 (fun _=>none) bjg
 ·cases h;exact j6 (fun _=>none) bjf
 ·cases h;exact j6 (fun _=>none) bje
 ·cases h;exact a0o
 ·cases h;exact a5a
 ·cases h;exact j6 (fun _=>none) bi9
 ·cases h;exact j6 (fun _=>none) bi8
 ·cases h;exact j6 (fun _=>none) bi7
 ·cases h;exact j6 (fun _=>none) bi6
 ·cases h;exact j6 (fun _=>none) bj8
 ·cases h;exact j6 (fun _=>none) bj7
 ·cases h;exact j6 (fun _=>none) bj6
 ·cases h;exact j6 (fun _=>none) bj5
 ·cases h;exact j6 (fun _=>none) bj4
 ·cases h;exact j6 (fun _=>none) bfe
 ·cases h;exact j6 (fun _=>none) bfd
 ·cases h;exact j6 (fun _=>none) bfc
 ·cases h;exact j6 (fun _=>none) be6
 ·cases h;exact j6 (fun _=>none) be5
 ·cases h;exact j6 (fun _=>none) be4
 ·cases h;exact j6 (fun _=>none) bfb
 ·cases h;exact j6 (fun _=>none) bfa
 ·cases h;exact j6 (fun _=>none) be9
 ·cases h;exact j6 (fun _=>none) be8
 ·cases h;exact j6 (fun _=>none) be3
 ·cases h;exact j6 (fun _=>none) be2
 ·cases h;exact j6 (fun _=>none) be1
 ·cases h;exact j6 (fun _=>none) be0
 ·cases h;exact j6 (fun _=>none) be7
 ·cases h
theorem tf:FindT CT:=by constructor <;> rfl
theorem tb:BadT CT:=by constructor <;> rfl
theorem tn:ConT CT:=by constructor <;> rfl
theorem tr:RulT CT:=by constructor <;> first | exact tf | exact tb | exact tn | rfl
theorem tli:LibT CT:=by constructor <;> rfl
theorem two:WorT CT:=by constructor <;> first | exact tli | rfl
theorem tfo:ForT CT:=by constructor <;> first | exact two | rfl
theorem tpr:PrT CT:=by constructor <;> first | exact tfo | rfl
theorem tpi:PriT CT:=by constructor <;> first | exact tpr | exact tr | rfl
theorem tl:LawT CT:=⟨tpi,rfl,rfl,rfl⟩
theorem t5:R5T CT:=by constructor <;> rfl
theorem t6:R6T CT:=by constructor <;> first | exact t5 | rfl
theorem t6l:L6T CT:=by constructor <;> rfl
theorem t6p:P6T CT:=by constructor <;> first | exact t6 | exact t6l | rfl
theorem tsa:SamT CT:=by constructor <;> rfl
theorem law_true (u0:V) (hu0:∃ (fv:V) (fs:List FunD),u0=.agg [fv]∧∀ H,sj H fv fs):∃ m H',aei CT m (.fn 3 [] []) [u0] 0 []=some (bl true,H'):=by
 obtain ⟨fv,fs,rfl,h1⟩:=hu0;obtain ⟨H',h⟩:=ay0 tl t6p tsa rfl rfl 0 (A:=[]) (af _) (h1 []);obtain ⟨m,hm⟩:=ad7 h;exact ⟨m,_,hm⟩
theorem a9r (os:Os) (started:os.Started) (H:Type) (enc:TypeId × Value→H):
 ReturnsInHanded {} Tryz.checked os 3 .any (fun w args=>(Rows.showPrintsSpec.pre enc Tryz.prog Tryz.f3 [] false w args∧laidMetH Tryz.prog Rows.showPrintsRow.laid w)∧sizedMet enc Tryz.prog Tryz.f3 (OpenSpec.ofChange Rows.showPrintsSpec) false w args) (Rows.showPrintsSpec.post enc Tryz.prog Tryz.f3 false true false false):=by
 refine returnsInHanded_of_change_and (C:=Tryz.checked) (X:=fun w _=>laidMetH Tryz.prog Rows.showPrintsRow.laid w) (fun _ _ _ hh h=>h.of_heap hh) own started (by kernel_rfl) Tryz.func3
  (ChangeSpec.witness_shaped (enc:=enc) (C:=Tryz.checked) (os:=os) (X:=fun w _=>laidMetH Tryz.prog Rows.showPrintsRow.laid w) false (World.doorLaid Tryz.prog 400 os) #[.agg #[.slice none 0 0]] 8 rfl (World.shaped_of_RefB (by kernel_rfl) (by kernel_rfl)) (by kernel_rfl) (by kernel_rfl) (by kernel_rfl) (baf os _)) ?_
 intro W base args ds gs before hval0 hW hcnd _ hL _;have hval:∀ (j:Nat) t v,Tryz.f3.params[j]?=some t→args[j]?=some v→Value.okWide Tryz.prog W .any base t v:=hval0;have hW':=hW;obtain ⟨p,q,hA0,hV,rfl,hfz,hnd⟩:=hW';have hA:DataW.TrodAll enc Tryz.prog W 0 (fun _=>true) true Tryz.f3.params.toList args.toList ds p:=hA0;rw [Tryz.params3] at hA hval;obtain ⟨v0,vs0,d0,ds0,p0,q0,ea0,ed0,ep0,h0,hA0⟩:=trodAll_cons hA;obtain ⟨en,_,_⟩:=trodAll_nil hA0
 have ha:args=#[v0]:=by
  apply wu;rw [ea0,en]
 have hok0:=hval 0 24 v0 (by simp) (by rw [ha];rfl)
 have hc0:∃ vs,v0=.agg vs:=by
  unfold Value.okWide at hok0;rw [Tryz.underlying24] at hok0;obtain ⟨cs,rfl,_⟩:=hok0;exact ⟨cs,rfl⟩
 obtain ⟨us0,hvs0,hvr0⟩:=a7q (ty:=bgv) (n:=40) (by kernel_rfl) hc0 h0
 obtain ⟨u0,he0,hu0⟩:=bck hvs0
 refine asl (CP:=CT) (pure':=PXf (fun _=>none)) mixed CT_ok laidOut (by kernel_rfl) (by kernel_rfl) (tb:=4) rfl (by kernel_rfl) Tryz.underlying4 (fun t ht=>?_) (fun ds hl=>?_) hW ⟨[u0],?_,law_true u0 hu0⟩ (fun B o e=>by cases e)
 ·rw [Tryz.params3] at ht;have:t∈[24]:=ht;simp only [qc,aav,or_false] at this
  rcases this with rfl <;> exact of_decide_eq_true (by kernel_rfl)
 ·rw [Tryz.params3] at hl
  match ds,hl with
  | [e0],_=>rfl
 ·rw [ha];subst he0;exact VRs.cons hvr0 (VRs.nil)
theorem said:Rows.ShowPrintsSaid:=
 OpenClaim.holds_of_wide 3 Tryz.f3 rfl rfl rfl rfl rfl rfl rfl ⟨rfl,rfl,rfl,rfl,rfl⟩ rfl rfl rfl rfl rfl (by kernel_rfl) Tryz.func3 (by kernel_rfl)
  (of_decide_eq_true (by kernel_rfl)) (by unfold Func.isWrapper;first | (rw [if_pos (by decide +kernel)];kernel_rfl) | (rw [if_neg (by decide +kernel)];exact ⟨rfl,rfl⟩))
  (fun os started H enc _=>a9r os started H enc)
theorem prints_holds:Rows.ShowPrintsCardSaid:=
 Claim7.holds_tied_plain_at .later [] [.data, .data, .data] true (true, "ee84e1396d57e8f506ed356c6338266b8d657ddd1640668092f90f0fc18bf78f") true
  said (fun _ h=>by cases h) (by kernel_rfl) (fun _ h=>by cases h) showPrints_row_tie rfl ⟨rfl,rfl⟩ (by kernel_rfl) rfl
  (fun f fn hf hfn=>by
   obtain rfl:f=3:=ic ((show Tryz.prog.funcNamed Rows.showPrintsRow.func=some 3 by kernel_rfl).symm.trans hf) |>.symm
   obtain rfl:fn=Tryz.f3:=(ic (Tryz.func3.symm.trans hfn)).symm
   refine ⟨by kernel_rfl,fun j t ht=>?_⟩
   rw [Tryz.params3] at ht
   have hm:t∈[24]:=by
    have:=aeh ht
    simpa using this
   simp only [qc,aav,or_false] at hm;rcases hm with rfl
   ·exact (show Tryz.prog.wantsStandIn 24=false by kernel_rfl))
  (by kernel_rfl)
end Go.Proofs.YtngfpadeebpoeaaGreatDoor
