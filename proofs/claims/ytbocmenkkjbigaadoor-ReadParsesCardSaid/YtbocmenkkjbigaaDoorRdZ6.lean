/- The law ReadParses of the given program answers true for every input: what is read is what the document's own Parse reads: program, spot, error. No condition beyond the package's variables, which are as the program's text lays them. -/
import Derived.Test.YtbocmenkkjbigaaDoorP0
import Derived.Test.YtbocmenkkjbigaaDoorP1
import Derived.Test.YtbocmenkkjbigaaDoorP2
import Derived.Test.YtbocmenkkjbigaaDoorP3
import Derived.Test.YtbocmenkkjbigaaDoorP4
import Derived.Test.YtbocmenkkjbigaaDoorP5
import Derived.Test.YtbocmenkkjbigaaDoorP6
import Derived.Test.YtbocmenkkjbigaaDoorP7
set_option linter.all false
set_option maxRecDepth 100000
namespace Go.Proofs.YtbocmenkkjbigaaDoor
open Go.ChangeShapes Go.WideShapes Go.ChangeAt Go.RowKit Go.AM
theorem own:ownKnob Tryd.prog.godebug=none:=by kernel_rfl
theorem laidOut:laidOutB Tryd.prog=true:=by kernel_rfl
noncomputable def CT:Nat->Option CFun
 |3=>some (.code a2e)
 |9=>some (.prim (bc5 CT0))
 |10=>some (.code af4)
 |11=>some (.code aq0)
 |12=>some (.code aqz)
 |13=>some (.code ag5)
 |19=>some (.code aip)
 |20=>some (.code aqv)
 |21=>some (.code anh)
 |22=>some (.code aqu)
 |23=>some (.code aci)
 |24=>some (.code aqt)
 |25=>some (.code aov)
 |26=>some (.code ang)
 |27=>some (.prim bhb)
 |28=>some (.code aou)
 |29=>some (.code aot)
 |30=>some (.code aos)
 |31=>some (.code aor)
 |32=>some (.code aoq)
 |33=>some (.prim auw)
 |40=>some (.code aqp)
 |41=>some (.code aqo)
 |42=>some (.code aon)
 |43=>some (.code aqm)
 |44=>some (.code ajs)
 |45=>some (.code aom)
 |_=>none
theorem CT_ok:∀k c,CT k=some c->adu Tryd.prog (PXf (fun _=>none)) k c:=by
 intro k c h;unfold CT at h;split at h
 .cases h;exact mr (fun _=>none) RAE_3
 .cases h;exact az7
 .cases h;exact mr (fun _=>none) bko
 .cases h;exact mr (fun _=>none) bk4
 .cases h;exact mr (fun _=>none) bk3
 .cases h;exact mr (fun _=>none) bdl
 .cases h;exact mr (fun _=>none) bkz
 .cases h;exact mr (fun _=>none) bku
 .cases h;exact mr (fun _=>none) bkt
 .cases h;exact mr (fun _=>none) bks
 .cases h;exact mr (fun _=>none) bkp
 .cases h;exact mr (fun _=>none) bk0
 .cases h;exact mr (fun _=>none) bdk
 .cases h;exact mr (fun _=>none) bdj
 .cases h;exact ayr
 .cases h;exact mr (fun _=>none) bdi
 .cases h;exact mr (fun _=>none) bdh
 .cases h;exact mr (fun _=>none) bdg
 .cases h;exact mr (fun _=>none) bdf
 .cases h;exact mr (fun _=>none) bde
 .cases h;exact auv
 .cases h;exact mr (fun _=>none) bky
 .cases h;exact mr (fun _=>none) bkx
 .cases h;exact mr (fun _=>none) bkw
 .cases h;exact mr (fun _=>none) bkv
 .cases h;exact mr (fun _=>none) bkr
 .cases h;exact mr (fun _=>none) bkq
 .cases h
theorem tl:TL CT:=⟨rfl,rfl,rfl,rfl,rfl,rfl,rfl,rfl,rfl⟩
theorem hP:aoh CT:=a9n rfl
theorem tsm:SamT CT:=by constructor<;>rfl
theorem t4:R4T CT:=⟨rfl,rfl⟩
theorem tf4:R4F CT:=⟨t4,rfl⟩
theorem tq4:RpT CT:=⟨tf4,rfl,rfl,rfl⟩
theorem tr3:TR CT:=by constructor<;>rfl
theorem hQ:asa CT:=az8 tq4 rfl tr3 rfl bf3 bd0
theorem law_true(a:ByteArray)(_ha:a.size<=maxLen):∃m H',aao CT m (.fn 3 [] []) [.s (.string a)] 0 []=some (bl true,H'):=by
 obtain⟨H',h⟩:=az6 hP hQ tsm rfl rfl 0 (A:=[]) (aj _) a;obtain⟨m,hm⟩:=afg h;exact⟨m,_,hm⟩
theorem bbk(os:Os)(started:os.Started)(H:Type)(enc:TypeId × Value->H):
 ReturnsInHanded {} Tryd.checked os 3 .any (fun w args=>(Rows.readParsesSpec.pre enc Tryd.prog Tryd.f3 [] false w args/\laidMetH Tryd.prog Rows.readParsesRow.laid w)/\sizedMet enc Tryd.prog Tryd.f3 (OpenSpec.ofChange Rows.readParsesSpec) false w args) (Rows.readParsesSpec.post enc Tryd.prog Tryd.f3 false true false false):=by
 refine returnsInHanded_of_change_and (C:=Tryd.checked) (X:=fun w _=>laidMetH Tryd.prog Rows.readParsesRow.laid w) (fun _ _ _ hh h=>h.of_heap hh) own started (by kernel_rfl) Tryd.func3
  (ChangeSpec.witness_shaped (enc:=enc) (C:=Tryd.checked) (os:=os) (X:=fun w _=>laidMetH Tryd.prog Rows.readParsesRow.laid w) false (World.doorLaid Tryd.prog 400 os) #[.string ⟨#[]⟩] 8 rfl (World.shaped_of_RefB (by kernel_rfl) (by kernel_rfl)) (by kernel_rfl) (by kernel_rfl) (by kernel_rfl) (bb8 os _)) ?_
 intro W base args ds gs before hval0 hW hcnd _ hL _;have hval:∀(j:Nat) t v,Tryd.f3.params[j]?=some t->args[j]?=some v->Value.okWide Tryd.prog W .any base t v:=hval0;have hW':=hW;obtain⟨p,q,hA0,hV,rfl,hfz,hnd⟩:=hW';have hA:DataW.TrodAll enc Tryd.prog W 0 (fun _=>true) true Tryd.f3.params.toList args.toList ds p:=hA0;rw[Tryd.params3]at hA hval;obtain⟨v0,vs0,d0,ds0,p0,q0,ea0,ed0,ep0,h0,hA0⟩:=trodAll_cons hA;obtain⟨en,_,_⟩:=trodAll_nil hA0
 have ha:args=#[v0]:=by
  apply xz;rw[ea0,en]
 have hok0:=hval 0 9 v0 (by simp) (by rw[ha];rfl)
 have hc0:v0.cells.toList=[v0]:=by
  unfold Value.okWide at hok0;rw[Tryd.underlying9]at hok0
  cases v0<;>first|rfl|exact False.elim hok0
 obtain⟨us0,hvs0,hvr0⟩:=a9b (ty:=.str) (n:=40) (by kernel_rfl) hc0 h0
 obtain⟨z0,he0,hz0⟩:=hvs0
 refine aty (CP:=CT) (pure':=PXf (fun _=>none)) mixed CT_ok laidOut (by kernel_rfl) (by kernel_rfl) (tb:=4) rfl (by kernel_rfl) Tryd.underlying4 (fun t ht=>?_) (fun ds hl=>?_) hW ⟨[.s (.string z0)],?_,law_true z0 hz0⟩ (fun B o e=>by cases e)
 .rw[Tryd.params3]at ht;have:t∈[9]:=ht;simp only[mq,xq,aiu]at this
  rcases this with rfl<;>exact acb (by kernel_rfl)
 .rw[Tryd.params3]at hl
  match ds,hl with
  | [e0],_=>rfl
 .rw[ha];subst he0;exact VRs.cons hvr0 (VRs.nil)
theorem said:Rows.ReadParsesSaid:=
 OpenClaim.holds_of_wide 3 Tryd.f3 rfl rfl rfl rfl rfl rfl rfl ⟨rfl,rfl,rfl,rfl,rfl⟩ rfl rfl rfl rfl rfl (by kernel_rfl) Tryd.func3 (by kernel_rfl)
  (acb (by kernel_rfl)) (by unfold Func.isWrapper;first|(rw[dw (by decide +kernel)];kernel_rfl)|(rw[fu (by decide +kernel)];exact⟨rfl,rfl⟩))
  (fun os started H enc _=>bbk os started H enc)
theorem parses_holds:Rows.ReadParsesCardSaid:=
 Claim7.holds_tied_plain_at .later [] [.data, .data, .data, .sentinel, .sentinel] true (true, "12adf0ebb9d285d22905482893ef80413d775dc0ad01c74e3b4c598610b084b0") true
  said (fun _ h=>by cases h) (by kernel_rfl) (fun _ h=>by cases h) readParses_row_tie rfl ⟨rfl,rfl⟩ (by kernel_rfl) rfl
  (fun f fn hf hfn=>by
   obtain rfl:f=3:=jk ((show Tryd.prog.funcNamed Rows.readParsesRow.func=some 3 by kernel_rfl).symm.trans hf) |>.symm
   obtain rfl:fn=Tryd.f3:=(jk (Tryd.func3.symm.trans hfn)).symm
   refine⟨by kernel_rfl,fun j t ht=>?_⟩
   rw[Tryd.params3]at ht
   have hm:t∈[9]:=by
    have:=afn ht
    simpa using this
   simp only[mq,xq,aiu]at hm;rcases hm with rfl
   .exact(show Tryd.prog.wantsStandIn 9=false by kernel_rfl))
  (by kernel_rfl)
end Go.Proofs.YtbocmenkkjbigaaDoor
