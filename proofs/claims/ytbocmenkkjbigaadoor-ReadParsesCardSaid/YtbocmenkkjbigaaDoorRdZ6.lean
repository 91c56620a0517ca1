/- The law ReadParses of the given program answers true for every input: what is read is what the document's own Parse reads: program, spot, error. No condition beyond the package's variables, which are as the program's text lays them. -/
import Derived.Test.YtbocmenkkjbigaaDoorP0
import Derived.Test.YtbocmenkkjbigaaDoorP1
import Derived.Test.YtbocmenkkjbigaaDoorP2
import Derived.Test.YtbocmenkkjbigaaDoorP3
import Derived.Test.YtbocmenkkjbigaaDoorP4
import Derived.Test.YtbocmenkkjbigaaDoorP5
import Derived.Test.YtbocmenkkjbigaaDoorP6
import Derived.Test.YtbocmenkkjbigaaDoorP7
set_option linter.all false
set_option maxRecDepth 100000
namespace Go.Proofs.YtbocmenkkjbigaaDoor
open Go.ChangeShapes Go.WideShapes Go.ChangeAt Go.RowKit Go.dO
theorem own:ownKnob Tryd.prog.godebug=none:=by kernel_rfl
theorem laidOut:laidOutB Tryd.prog=true:=by kernel_rfl
noncomputable def ah:Nat->Option c7
 |3=>some (.code tY)
 |9=>some (.oD (ze om))
 |10=>some (.code pe)
 |11=>some (.code xW)
 |12=>some (.code x8)
 |13=>some (.code p0)
 |19=>some (.code rn)
 |20=>some (.code x0)
 |21=>some (.code uT)
 |22=>some (.code xf)
 |23=>some (.code ke)
 |24=>some (.code xd)
 |25=>some (.code w8)
 |26=>some (.code uZ)
 |27=>some (.oD C4)
 |28=>some (.code wM)
 |29=>some (.code wJ)
 |30=>some (.code xb)
 |31=>some (.code wT)
 |32=>some (.code wF)
 |33=>some (.oD y0)
 |40=>some (.code xA)
 |41=>some (.code xI)
 |42=>some (.code vz)
 |43=>some (.code xM)
 |44=>some (.code su)
 |45=>some (.code vx)
 |_=>none
theorem apI:∀k c,ah k=some c->lq Tryd.prog (mX (fun _=>none)) k c:=by
 intro k c h;unfold ah at h;split at h
 .cases h;exact eW (fun _=>none) aF3
 .cases h;exact arh
 .cases h;exact eW (fun _=>none) awg
 .cases h;exact eW (fun _=>none) aEu
 .cases h;exact eW (fun _=>none) arD
 .cases h;exact eW (fun _=>none) ahm
 .cases h;exact eW (fun _=>none) aCN
 .cases h;exact eW (fun _=>none) aoB
 .cases h;exact eW (fun _=>none) aHw
 .cases h;exact eW (fun _=>none) aAs
 .cases h;exact eW (fun _=>none) aIe
 .cases h;exact eW (fun _=>none) axP
 .cases h;exact eW (fun _=>none) alL
 .cases h;exact eW (fun _=>none) aiY
 .cases h;exact aej
 .cases h;exact eW (fun _=>none) ajs
 .cases h;exact eW (fun _=>none) YC
 .cases h;exact eW (fun _=>none) adQ
 .cases h;exact eW (fun _=>none) ajb
 .cases h;exact eW (fun _=>none) adM
 .cases h;exact aca
 .cases h;exact eW (fun _=>none) aEl
 .cases h;exact eW (fun _=>none) aHW
 .cases h;exact eW (fun _=>none) avw
 .cases h;exact eW (fun _=>none) atE
 .cases h;exact eW (fun _=>none) aF5
 .cases h;exact eW (fun _=>none) arJ
 .cases h
theorem aJo:rT ah:=⟨rfl,rfl,rfl,rfl,rfl,rfl,rfl,rfl,rfl⟩
theorem aS:GB ah:=aD3 rfl
theorem awY:Ey ah:=by constructor<;>rfl
theorem t4:Kc ah:=⟨rfl,rfl⟩
theorem auR:Qe ah:=⟨t4,rfl⟩
theorem ayF:u0 ah:=⟨auR,rfl,rfl,rfl⟩
theorem aEY:uI ah:=by constructor<;>rfl
theorem bn:QD ah:=ar7 ayF rfl aEY rfl aH8 asM
theorem law_true(a:ByteArray)(aJw:a.size<=maxLen):∃m H',hZ ah m (.fn 3 [] []) [.s (.string a)] 0 []=some (aL true,H'):=by
 obtain⟨H',h⟩:=aIN aS bn awY rfl rfl 0 (A:=[]) (bS _) a;obtain⟨m,hm⟩:=Cq h;exact⟨m,_,hm⟩
theorem aue(os:Os)(started:os.Started)(H:Type)(enc:TypeId × Value->H):
 ReturnsInHanded {} Tryd.checked os 3 .any (fun w args=>(Rows.readParsesSpec.pre enc Tryd.prog Tryd.f3 [] false w args/\laidMetH Tryd.prog Rows.readParsesRow.laid w)/\sizedMet enc Tryd.prog Tryd.f3 (OpenSpec.ofChange Rows.readParsesSpec) false w args) (Rows.readParsesSpec.post enc Tryd.prog Tryd.f3 false true false false):=by
 refine returnsInHanded_of_change_and (C:=Tryd.checked) (X:=fun w _=>laidMetH Tryd.prog Rows.readParsesRow.laid w) (fun _ _ _ hh h=>h.of_heap hh) own started (by kernel_rfl) Tryd.func3
  (ChangeSpec.witness_shaped (enc:=enc) (C:=Tryd.checked) (os:=os) (X:=fun w _=>laidMetH Tryd.prog Rows.readParsesRow.laid w) false (World.doorLaid Tryd.prog 400 os) #[.string ⟨#[]⟩] 8 rfl (World.shaped_of_RefB (by kernel_rfl) (by kernel_rfl)) (by kernel_rfl) (by kernel_rfl) (by kernel_rfl) (auA os _)) ?_
 intro W base args dh gs before azi vu aJK _ dw _;have s5:∀(j:Nat) t v,Tryd.f3.params[j]?=some t->args[j]?=some v->Value.okWide Tryd.prog W .any base t v:=azi;have auw:=vu;obtain⟨p,q,rp,dB,rfl,Y7,ki⟩:=auw;have ib:DataW.TrodAll enc Tryd.prog W 0 (fun _=>true) true Tryd.f3.params.toList args.toList dh p:=rp;rw[Tryd.params3]at ib s5;obtain⟨v0,aJW,d0,aJ3,ku,kK,aAG,aJE,aKu,a1,rp⟩:=trodAll_cons ib;obtain⟨dM,_,_⟩:=trodAll_nil rp
 have aD:args=#[v0]:=by
  apply pq;rw[aAG,dM]
 have R8:=s5 0 9 v0 (by simp) (by rw[aD];rfl)
 have pg:v0.cells.toList=[v0]:=by
  unfold Value.okWide at R8;rw[Tryd.underlying9]at R8
  cases v0<;>first|rfl|exact False.elim R8
 obtain⟨aJU,aGx,aAI⟩:=aBN (ty:=.str) (n:=40) (by kernel_rfl) pg a1
 obtain⟨z0,Ch,Q1⟩:=aGx
 refine avj (bX:=ah) (pure':=mX (fun _=>none)) mixed apI laidOut (by kernel_rfl) (by kernel_rfl) (tb:=4) rfl (by kernel_rfl) Tryd.underlying4 (fun t aO=>?_) (fun dh ak=>?_) vu ⟨[.s (.string z0)],?_,law_true z0 Q1⟩ (fun B o e=>by cases e)
 .rw[Tryd.params3]at aO;have:t∈[9]:=aO;simp only[kf,xa,vN]at this
  rcases this with rfl<;>exact EG (by kernel_rfl)
 .rw[Tryd.params3]at ak
  match dh,ak with
  | [ck],_=>rfl
 .rw[aD];subst Ch;exact b0.cons aAI (b0.nil)
theorem said:Rows.ReadParsesSaid:=
 OpenClaim.holds_of_wide 3 Tryd.f3 rfl rfl rfl rfl rfl rfl rfl ⟨rfl,rfl,rfl,rfl,rfl⟩ rfl rfl rfl rfl rfl (by kernel_rfl) Tryd.func3 (by kernel_rfl)
  (EG (by kernel_rfl)) (by unfold Func.isWrapper;first|(rw[a' (by decide +kernel)];kernel_rfl)|(rw[bm (by decide +kernel)];exact⟨rfl,rfl⟩))
  (fun os started H enc _=>aue os started H enc)
theorem parses_holds:Rows.ReadParsesCardSaid:=
 Claim7.holds_tied_plain_at .later [] [.data, .data, .data, .sentinel, .sentinel] true (true, "12adf0ebb9d285d22905482893ef80413d775dc0ad01c74e3b4c598610b084b0") true
  said (fun _ h=>by cases h) (by kernel_rfl) (fun _ h=>by cases h) readParses_row_tie rfl ⟨rfl,rfl⟩ (by kernel_rfl) rfl
  (fun f fn al r2=>by
   obtain rfl:f=3:=hc ((show Tryd.prog.funcNamed Rows.readParsesRow.func=some 3 by kernel_rfl).symm.trans al) |>.symm
   obtain rfl:fn=Tryd.f3:=(hc (Tryd.func3.symm.trans r2)).symm
   refine⟨by kernel_rfl,fun j t aO=>?_⟩
   rw[Tryd.params3]at aO
   have hm:t∈[9]:=by
    have:=Ma aO
    simpa using this
   simp only[kf,xa,vN]at hm;rcases hm with rfl
   .exact(show Tryd.prog.wantsStandIn 9=false by kernel_rfl))
  (by kernel_rfl)
end Go.Proofs.YtbocmenkkjbigaaDoor
