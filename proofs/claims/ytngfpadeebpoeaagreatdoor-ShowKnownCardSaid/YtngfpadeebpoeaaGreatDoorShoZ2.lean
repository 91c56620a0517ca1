/- The law ShowKnown of the given program answers true for every input: what is told of the known programs is the known text, what can not be told fails. No condition beyond the package's variables, which are as the program's text lays them. -/
import Derived.Test.YtngfpadeebpoeaaGreatDoorP0
import Derived.Test.YtngfpadeebpoeaaGreatDoorP1
import Derived.Test.YtngfpadeebpoeaaGreatDoorP2
import Derived.Test.YtngfpadeebpoeaaGreatDoorP3
import Derived.Test.YtngfpadeebpoeaaGreatDoorP4
import Derived.Test.YtngfpadeebpoeaaGreatDoorP5
import Derived.Test.YtngfpadeebpoeaaGreatDoorP6
set_option linter.all false
set_option maxRecDepth 100000
namespace Go.Proofs.YtngfpadeebpoeaaGreatDoor
open Go.ChangeShapes Go.WideShapes Go.ChangeAt Go.RowKit Go.AM
theorem own:ownKnob Tryz.prog.godebug=none:=by kernel_rfl
theorem laidOut:laidOutB Tryz.prog=true:=by kernel_rfl
def CT:Nat→Option CFun
 | 5=>some (.code s_f5)
 | 7=>some (.code s_f7)
 | 8=>some (.code s_f8)
 | 10=>some (.code s_f10)
 | 13=>some (.code s_f13)
 | 15=>some (.code s_f15)
 | 16=>some (.code s_f16)
 | 17=>some (.code s_f17)
 | 18=>some (.code s_f18)
 | 19=>some (.code s_f19)
 | 20=>some (.prim joinG)
 | 21=>some (.code s_f21)
 | 22=>some (.code s_f22)
 | 23=>some (.code s_f23)
 | 24=>some (.prim bstG)
 | 35=>some (.code s_f35)
 | 37=>some (.code s_f37)
 | 44=>some (.code s_f44)
 | 52=>some (.code s_f52)
 | 53=>some (.prim itoaG)
 | 54=>some (.code s_f54)
 | 55=>some (.code s_f55)
 | 56=>some (.code s_f56)
 | 57=>some (.code s_f57)
 | 58=>some (.code s_f58)
 | 59=>some (.code s_f59)
 | 60=>some (.code s_f60)
 | 61=>some (.code s_f61)
 | 62=>some (.code s_f62)
 | 63=>some (.code s_f63)
 | 64=>some (.code s_f64)
 | 65=>some (.code s_f65)
 | 66=>some (.code s_f66)
 | 67=>some (.code s_f67)
 | 68=>some (.code s_f68)
 | 69=>some (.prim trimG)
 | 70=>some (.prim copyG)
 | 92=>some (.code s_f92)
 | 93=>some (.code s_f93)
 | 94=>some (.code s_f94)
 | 95=>some (.code s_f95)
 | 96=>some (.code s_f96)
 | 100=>some (.code s_f100)
 | 102=>some (.code s_f102)
 | 104=>some (.code s_f104)
 | 135=>some (.code s_f135)
 | 136=>some (.code s_f136)
 | 137=>some (.code s_f137)
 | 140=>some (.code s_f140)
 | 168=>some (.code s_f168)
 | _=>none
theorem CT_ok:∀ k c,CT k=some c→FunOk Tryz.prog (PXf (fun _=>none)) k c:=by
 intro k c h
 unfold CT at h
 split at h
 ·cases h;exact funOk_f (fun _=>none) SA5_5
 ·cases h;exact funOk_f (fun _=>none) SA1_7
 ·cases h;exact funOk_f (fun _=>none) SA4_8
 ·cases h;exact funOk_f (fun _=>none) SA3_10
 ·cases h;exact funOk_f (fun _=>none) SA5_13
 ·cases h;exact funOk_f (fun _=>none) SA1_15
 ·cases h;exact funOk_f (fun _=>none) SA2_16
 ·cases h;exact funOk_f (fun _=>none) SA3_17
 ·cases h;exact funOk_f (fun _=>none) SA3_18
 ·cases h;exact funOk_f (fun _=>none) SA3_19
 ·cases h;exact join_prim
 ·cases h;exact funOk_f (fun _=>none) SA3_21
 ·cases h;exact funOk_f (fun _=>none) SA3_22
 ·cases h;exact funOk_f (fun _=>none) SA3_23
 ·cases h;exact bst_prim
 ·cases h;exact funOk_f (fun _=>none) SA1_35
 ·cases h;exact funOk_f (fun _=>none) SA2_37
 ·cases h;exact funOk_f (fun _=>none) SA2_44
 ·cases h;exact funOk_f (fun _=>none) SA3_52
 ·cases h;exact itoa_prim
 ·cases h;exact funOk_f (fun _=>none) SA3_54
 ·cases h;exact funOk_f (fun _=>none) SA3_55
 ·cases h;exact funOk_f (fun _=>none) SA3_56
 ·cases h;exact funOk_f (fun _=>none) SA3_57
 ·cases h;exact funOk_f (fun _=>none) SA3_58
 ·cases h;exact funOk_f (fun _=>none) SA3_59
 ·cases h;exact funOk_f (fun _=>none) SA3_60
 ·cases h;exact funOk_f (fun _=>none) SA3_61
 ·cases h;exact funOk_f (fun _=>none) SA3_62
 ·cases h;exact funOk_f (fun _=>none) SA3_63
 ·cases h;exact funOk_f (fun _=>none) SA3_64
 ·cases h;exact funOk_f (fun _=>none) SA3_65
 ·cases h;exact funOk_f (fun _=>none) SA3_66
 ·cases h;exact funOk_f (fun _=>none) SA3_67
 ·cases h;exact funOk_f (fun _=>none) SA3_68
 ·cases h;exact trim_prim
 ·cases h;exact copy_prim
 ·cases h;exact funOk_f (fun _=>none) SA1_92
 ·cases h;exact funOk_f (fun _=>none) SA1_93
 ·cases h;exact funOk_f (fun _=>none) SA1_94
 ·cases h;exact funOk_f (fun _=>none) SA1_95
 ·cases h;exact funOk_f (fun _=>none) SA1_96
 ·cases h;exact funOk_f (fun _=>none) SA1_100
 ·cases h;exact funOk_f (fun _=>none) SA1_102
 ·cases h;exact funOk_f (fun _=>none) SA1_104
 ·cases h;exact funOk_f (fun _=>none) SA1_135
 ·cases h;exact funOk_f (fun _=>none) SA1_136
 ·cases h;exact funOk_f (fun _=>none) SA1_137
 ·cases h;exact funOk_f (fun _=>none) SA1_140
 ·cases h;exact funOk_f (fun _=>none) SA1_168
 ·cases h
theorem tf:FindT CT:=by constructor <;> rfl
theorem tb:BadT CT:=by constructor <;> rfl
theorem tn:ConT CT:=by constructor <;> rfl
theorem tr:RulT CT:=by constructor <;> first | exact tf | exact tb | exact tn | rfl
theorem tli:LibT CT:=by constructor <;> rfl
theorem two:WorT CT:=by constructor <;> first | exact tli | rfl
theorem tfo:ForT CT:=by constructor <;> first | exact two | rfl
theorem tpr:PrT CT:=by constructor <;> first | exact tfo | rfl
theorem tpi:PriT CT:=by constructor <;> first | exact tpr | exact tr | rfl
theorem law_true:∃ m H',callN CT m (.fn 5 [] []) [] 0 []=some (bl true,H'):=by
 obtain ⟨H',h⟩:=known_law tpi rfl rfl rfl 0 (A:=[]) (Nat.le_refl _)
 obtain ⟨m,hm⟩:=callW_ex h
 exact ⟨m,_,hm⟩
theorem f_lifted (os:Os) (started:os.Started) (H:Type) (enc:TypeId × Value→H):
 ReturnsInHanded {} Tryz.checked os 5 .any (fun w args=>(Rows.showKnownSpec.pre enc Tryz.prog Tryz.f5 [] false w args∧laidMetH Tryz.prog Rows.showKnownRow.laid w)∧sizedMet enc Tryz.prog Tryz.f5 (OpenSpec.ofChange Rows.showKnownSpec) false w args) (Rows.showKnownSpec.post enc Tryz.prog Tryz.f5 false true false false):=by
 refine returnsInHanded_of_change_and (C:=Tryz.checked) (X:=fun w _=>laidMetH Tryz.prog Rows.showKnownRow.laid w) (fun _ _ _ hh h=>h.of_heap hh) own started (by kernel_rfl) Tryz.func5
  (ChangeSpec.witness_shaped (enc:=enc) (C:=Tryz.checked) (os:=os) (X:=fun w _=>laidMetH Tryz.prog Rows.showKnownRow.laid w) false (World.doorLaid Tryz.prog 400 os) #[] 8 rfl (World.shaped_of_RefB (by kernel_rfl) (by kernel_rfl)) (by kernel_rfl) (by kernel_rfl) (by kernel_rfl) (door_met os _)) ?_
 intro W base args ds gs before hval0 hW hcnd _ hL _
 have hval:∀ (j:Nat) t v,Tryz.f5.params[j]?=some t→args[j]?=some v→Value.okWide Tryz.prog W .any base t v:=hval0
 have hW':=hW
 obtain ⟨p,q,hA0,hV,rfl,hfz,hnd⟩:=hW'
 have hA:DataW.TrodAll enc Tryz.prog W 0 (fun _=>true) true Tryz.f5.params.toList args.toList ds p:=hA0
 rw [Tryz.params5] at hA hval
 obtain ⟨en,_,_⟩:=trodAll_nil hA
 have ha:args=#[]:=by
  exact Array.ext' en
 refine law_contract (CP:=CT) (pure':=PXf (fun _=>none)) mixed CT_ok laidOut (by kernel_rfl) (by kernel_rfl) (tb:=4) rfl (by kernel_rfl) Tryz.underlying4 (fun t ht=>?_) (fun ds hl=>?_) hW ⟨[],?_,law_true ⟩ (fun B o e=>by cases e)
 ·rw [Tryz.params5] at ht
  cases ht
 ·rw [Tryz.params5] at hl
  match ds,hl with
  | [],_=>rfl
 ·rw [ha]
  exact VRs.nil
theorem said:Rows.ShowKnownSaid:=
 OpenClaim.holds_of_wide 5 Tryz.f5 rfl rfl rfl rfl rfl rfl rfl ⟨rfl,rfl,rfl,rfl,rfl⟩ rfl rfl rfl rfl rfl (by kernel_rfl) Tryz.func5 (by kernel_rfl)
  (of_decide_eq_true (by kernel_rfl)) (by unfold Func.isWrapper;first | (rw [if_pos (by decide +kernel)];kernel_rfl) | (rw [if_neg (by decide +kernel)];exact ⟨rfl,rfl⟩))
  (fun os started H enc _=>f_lifted os started H enc)
theorem known_holds:Rows.ShowKnownCardSaid:=
 Claim7.holds_tied_plain_at .later [] [.data, .data, .data] true (true, "ee84e1396d57e8f506ed356c6338266b8d657ddd1640668092f90f0fc18bf78f") true
  said (fun _ h=>by cases h) (by kernel_rfl) (fun _ h=>by cases h) showKnown_row_tie rfl ⟨rfl,rfl⟩ (by kernel_rfl) rfl
  (fun f fn hf hfn=>by
   obtain rfl:f=5:=Option.some.inj ((show Tryz.prog.funcNamed Rows.showKnownRow.func=some 5 by kernel_rfl).symm.trans hf) |>.symm
   obtain rfl:fn=Tryz.f5:=(Option.some.inj (Tryz.func5.symm.trans hfn)).symm
   refine ⟨by kernel_rfl,fun j t ht=>?_⟩
   rw [Tryz.params5] at ht
   simp at ht)
  (by kernel_rfl)
end Go.Proofs.YtngfpadeebpoeaaGreatDoor
