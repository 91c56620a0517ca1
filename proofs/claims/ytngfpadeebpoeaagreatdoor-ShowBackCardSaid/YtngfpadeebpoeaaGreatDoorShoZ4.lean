/- The law ShowBack of the given program answers true for every input: what is told is read as the program, and told again the same; whatever was read, and can be told, has one form. No condition beyond the package's variables, which are as the program's text lays them. -/
import Derived.Test.YtngfpadeebpoeaaGreatDoorP0
import Derived.Test.YtngfpadeebpoeaaGreatDoorP1
import Derived.Test.YtngfpadeebpoeaaGreatDoorP2
import Derived.Test.YtngfpadeebpoeaaGreatDoorP3
import Derived.Test.YtngfpadeebpoeaaGreatDoorP4
import Derived.Test.YtngfpadeebpoeaaGreatDoorP5
import Derived.Test.YtngfpadeebpoeaaGreatDoorP6
import Derived.Test.YtngfpadeebpoeaaGreatDoorP7
set_option linter.all false
set_option maxRecDepth 100000
namespace Go.Proofs.YtngfpadeebpoeaaGreatDoor
open Go.ChangeShapes Go.WideShapes Go.ChangeAt Go.RowKit Go.ea gO
theorem own:ownKnob Tryz.prog.godebug=none:=by kernel_rfl
theorem laidOut:laidOutB Tryz.prog=true:=by kernel_rfl
noncomputable def ag:Nat->Option cz
 |6=>some (.code m')
 |7=>some (.code sn)
 |8=>some (.code y7)
 |10=>some (.code sC)
 |12=>some (.code y6)
 |14=>some (.hP (AQ oF))
 |15=>some (.code sy)
 |16=>some (.code rS)
 |17=>some (.code yP)
 |18=>some (.code yc)
 |19=>some (.code sD)
 |20=>some (.hP Gw)
 |21=>some (.code zh)
 |22=>some (.code za)
 |23=>some (.code x8)
 |24=>some (.hP C3)
 |28=>some (.code x3)
 |29=>some (.code x')
 |35=>some (.code zQ)
 |37=>some (.code u2)
 |44=>some (.code uB)
 |52=>some (.code tU)
 |53=>some (.hP Gi)
 |54=>some (.code yr)
 |55=>some (.code yo)
 |56=>some (.code yk)
 |57=>some (.code xm)
 |58=>some (.code xZ)
 |59=>some (.code xF)
 |60=>some (.code wu)
 |61=>some (.code x9)
 |62=>some (.code xe)
 |63=>some (.code w2)
 |64=>some (.code wV)
 |65=>some (.code wX)
 |66=>some (.code xj)
 |67=>some (.code xH)
 |68=>some (.code ys)
 |69=>some (.hP HF)
 |70=>some (.hP Dt)
 |79=>some (.hP Fu)
 |85=>some (.hP Cs)
 |92=>some (.code uM)
 |93=>some (.code xR)
 |94=>some (.code vS)
 |95=>some (.code x4)
 |96=>some (.code AB)
 |100=>some (.code vU)
 |102=>some (.code wI)
 |104=>some (.code uY)
 |135=>some (.code r')
 |136=>some (.code sE)
 |137=>some (.code vT)
 |140=>some (.code yV)
 |168=>some (.code ue)
 |_=>none
theorem aLD:∀k c,ag k=some c->iP Tryz.prog (nJ (fun _=>none)) k c:=by
 intro k c h;unfold ag at h;split at h
 .cases h;exact dM (fun _=>none) aSa
 .cases h;exact dM (fun _=>none) aK8
 .cases h;exact dM (fun _=>none) aOj
 .cases h;exact dM (fun _=>none) aGk
 .cases h;exact dM (fun _=>none) aGp
 .cases h;exact aKY
 .cases h;exact dM (fun _=>none) aCX
 .cases h;exact dM (fun _=>none) aAC
 .cases h;exact dM (fun _=>none) aSY
 .cases h;exact dM (fun _=>none) aFg
 .cases h;exact dM (fun _=>none) azK
 .cases h;exact aGr
 .cases h;exact dM (fun _=>none) aFu
 .cases h;exact dM (fun _=>none) aM9
 .cases h;exact dM (fun _=>none) aPU
 .cases h;exact aLo
 .cases h;exact dM (fun _=>none) azx
 .cases h;exact dM (fun _=>none) aRF
 .cases h;exact dM (fun _=>none) aQM
 .cases h;exact dM (fun _=>none) aDp
 .cases h;exact dM (fun _=>none) ayA
 .cases h;exact dM (fun _=>none) aLd
 .cases h;exact aLM
 .cases h;exact dM (fun _=>none) aHS
 .cases h;exact dM (fun _=>none) aPb
 .cases h;exact dM (fun _=>none) aIG
 .cases h;exact dM (fun _=>none) aKA
 .cases h;exact dM (fun _=>none) aRu
 .cases h;exact dM (fun _=>none) aAM
 .cases h;exact dM (fun _=>none) aHd
 .cases h;exact dM (fun _=>none) aUn
 .cases h;exact dM (fun _=>none) aHj
 .cases h;exact dM (fun _=>none) aST
 .cases h;exact dM (fun _=>none) aJz
 .cases h;exact dM (fun _=>none) aDQ
 .cases h;exact dM (fun _=>none) aDL
 .cases h;exact dM (fun _=>none) aKK
 .cases h;exact dM (fun _=>none) az3
 .cases h;exact aU4
 .cases h;exact aCg
 .cases h;exact acQ
 .cases h;exact akT
 .cases h;exact dM (fun _=>none) ay2
 .cases h;exact dM (fun _=>none) aB8
 .cases h;exact dM (fun _=>none) aL4
 .cases h;exact dM (fun _=>none) aFN
 .cases h;exact dM (fun _=>none) aLW
 .cases h;exact dM (fun _=>none) aUc
 .cases h;exact dM (fun _=>none) aHc
 .cases h;exact dM (fun _=>none) aCN
 .cases h;exact dM (fun _=>none) aDa
 .cases h;exact dM (fun _=>none) aBT
 .cases h;exact dM (fun _=>none) aKm
 .cases h;exact dM (fun _=>none) aW5
 .cases h;exact dM (fun _=>none) aPS
 .cases h
theorem Q':Hs ag:=by constructor<;>rfl
theorem tb:zu ag:=by constructor<;>rfl
theorem aPm:DW ag:=by constructor<;>rfl
theorem c4:Hz ag:=by constructor<;>first|exact Q'|exact tb|exact aPm|rfl
theorem aAL:v' ag:=by constructor<;>rfl
theorem two:oZ ag:=by constructor<;>first|exact aAL|rfl
theorem aNY:SV ag:=by constructor<;>first|exact two|rfl
theorem aNX:B1 ag:=by constructor<;>first|exact aNY|rfl
theorem aFf:Hl ag:=by constructor<;>first|exact aNX|exact c4|rfl
theorem aPV:Gk ag:=by constructor<;>rfl
theorem aGh:Om ag:=⟨aFf,aQn rfl,aPV,rfl,rfl,rfl⟩
theorem law_true(ym:V)(Jl:∃(cr:V) (fs:List cT),ym=.agg [cr]/\∀H,iF H cr fs)(a:ByteArray)(aXy:a.size<=maxLen):∃m H',iq ag m (.fn 6 [] []) [ym,.s (.string a)] 0 []=some (ar true,H'):=by
 obtain⟨cr,fs,rfl,J⟩:=Jl;obtain⟨H',h⟩:=aGD aGh rfl 0 (A:=[]) (cq _) (J []) a;obtain⟨m,hm⟩:=Co h;exact⟨m,_,hm⟩
theorem aDE(os:Os)(started:os.Started)(H:Type)(enc:TypeId × Value->H):
 ReturnsInHanded {} Tryz.checked os 6 .any (fun w args=>(Rows.showBackSpec.pre enc Tryz.prog Tryz.f6 [] false w args/\laidMetH Tryz.prog Rows.showBackRow.laid w)/\sizedMet enc Tryz.prog Tryz.f6 (OpenSpec.ofChange Rows.showBackSpec) false w args) (Rows.showBackSpec.post enc Tryz.prog Tryz.f6 false true false false):=by
 refine returnsInHanded_of_change_and (C:=Tryz.checked) (X:=fun w _=>laidMetH Tryz.prog Rows.showBackRow.laid w) (fun _ _ _ hh h=>h.of_heap hh) own started (by kernel_rfl) Tryz.func6
  (ChangeSpec.witness_shaped (enc:=enc) (C:=Tryz.checked) (os:=os) (X:=fun w _=>laidMetH Tryz.prog Rows.showBackRow.laid w) false (World.doorLaid Tryz.prog 400 os) #[.agg #[.slice none 0 0],.string ⟨#[]⟩] 8 rfl (World.shaped_of_RefB (by kernel_rfl) (by kernel_rfl)) (by kernel_rfl) (by kernel_rfl) (by kernel_rfl) (aBV os _)) ?_
 intro W base args de gs before aWs ta aXF _ cU _;have xO:∀(j:Nat) t v,Tryz.f6.params[j]?=some t->args[j]?=some v->Value.okWide Tryz.prog W .any base t v:=aWs;have aLV:=ta;obtain⟨p,q,nC,cA,rfl,acS,lN⟩:=aLV;have gU:DataW.TrodAll enc Tryz.prog W 0 (fun _=>true) true Tryz.f6.params.toList args.toList de p:=nC;rw[Tryz.params6]at gU xO;obtain⟨v0,aXc,d0,aYd,k7,vf,aWl,aXI,aYi,bd,nC⟩:=trodAll_cons gU;obtain⟨v1,aYF,d1,ud,cn,bj,aSK,aXf,aXC,J,er⟩:=trodAll_cons nC;obtain⟨dT,_,_⟩:=trodAll_nil er
 have aO:args=#[v0,v1]:=by
  apply tf;rw[aWl,aSK,dT]
 have UC:=xO 0 24 v0 (by simp) (by rw[aO];rfl)
 have pO:∃vs,v0=.agg vs:=by
  unfold Value.okWide at UC;rw[Tryz.underlying24]at UC;obtain⟨cs,rfl,_⟩:=UC;exact⟨cs,rfl⟩
 obtain⟨aXt,aJn,aIS⟩:=ave (ty:=aks) (n:=40) (by kernel_rfl) pO bd
 obtain⟨ym,HA,Jl⟩:=aB2 aJn
 have H6:=xO 1 9 v1 (by simp) (by rw[aO];rfl)
 have Fv:v1.cells.toList=[v1]:=by
  unfold Value.okWide at H6;rw[Tryz.underlying9]at H6
  cases v1<;>first|rfl|exact False.elim H6
 obtain⟨aYk,aLs,aQZ⟩:=ave (ty:=.str) (n:=40) (by kernel_rfl) Fv J
 obtain⟨eO,NB,EM⟩:=aLs
 refine aPy (b1:=ag) (pure':=nJ (fun _=>none)) mixed aLD laidOut (by kernel_rfl) (by kernel_rfl) (tb:=4) rfl (by kernel_rfl) Tryz.underlying4 (fun t aY=>?_) (fun de aq=>?_) ta ⟨[ym,.s (.string eO)],?_,law_true ym Jl eO EM⟩ (fun B o e=>by cases e)
 .rw[Tryz.params6]at aY;have:t∈[24,9]:=aY;simp only[nj,xn,xv]at this
  rcases this with rfl|rfl<;>exact I8 (by kernel_rfl)
 .rw[Tryz.params6]at aq
  match de,aq with
  | [cX,aE],_=>rfl
 .rw[aO];subst HA NB;exact b6.cons aIS (b6.cons aQZ (b6.nil))
theorem said:Rows.ShowBackSaid:=
 OpenClaim.holds_of_wide 6 Tryz.f6 rfl rfl rfl rfl rfl rfl rfl ⟨rfl,rfl,rfl,rfl,rfl⟩ rfl rfl rfl rfl rfl (by kernel_rfl) Tryz.func6 (by kernel_rfl)
  (I8 (by kernel_rfl)) (by unfold Func.isWrapper;first|(rw[bE (by decide +kernel)];kernel_rfl)|(rw[bV (by decide +kernel)];exact⟨rfl,rfl⟩))
  (fun os started H enc _=>aDE os started H enc)
theorem back_holds:Rows.ShowBackCardSaid:=
 Claim7.holds_tied_plain_at .later [] [.data, .data, .data, .sentinel, .sentinel] true (true, "ee84e1396d57e8f506ed356c6338266b8d657ddd1640668092f90f0fc18bf78f") true
  said (fun _ h=>by cases h) (by kernel_rfl) (fun _ h=>by cases h) showBack_row_tie rfl ⟨rfl,rfl⟩ (by kernel_rfl) rfl
  (fun f fn al tF=>by
   obtain rfl:f=6:=kI ((show Tryz.prog.funcNamed Rows.showBackRow.func=some 6 by kernel_rfl).symm.trans al) |>.symm
   obtain rfl:fn=Tryz.f6:=(kI (Tryz.func6.symm.trans tF)).symm
   refine⟨by kernel_rfl,fun j t aY=>?_⟩
   rw[Tryz.params6]at aY
   have hm:t∈[24,9]:=by
    have:=OZ aY
    simpa using this
   simp only[nj,xn,xv]at hm
   rcases hm with rfl|rfl
   .exact(show Tryz.prog.wantsStandIn 24=false by kernel_rfl)
   .exact(show Tryz.prog.wantsStandIn 9=false by kernel_rfl))
  (by kernel_rfl)
end Go.Proofs.YtngfpadeebpoeaaGreatDoor
