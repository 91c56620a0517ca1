/- The law ReadJoins of the given program answers true for every input: two texts, one behind the other, are read as both. No condition beyond the package's variables, which are as the program's text lays them. -/
import Derived.Test.YtbocmenkkjbigaaDoorP0
import Derived.Test.YtbocmenkkjbigaaDoorP1
import Derived.Test.YtbocmenkkjbigaaDoorP2
import Derived.Test.YtbocmenkkjbigaaDoorP3
import Derived.Test.YtbocmenkkjbigaaDoorP4
import Derived.Test.YtbocmenkkjbigaaDoorP5
set_option linter.all false
set_option maxRecDepth 100000
namespace Go.Proofs.YtbocmenkkjbigaaDoor
open Go.ChangeShapes Go.WideShapes Go.ChangeAt Go.RowKit Go.AM
theorem own:ownKnob Tryd.prog.godebug=none:=by kernel_rfl
theorem laidOut:laidOutB Tryd.prog=true:=by kernel_rfl
noncomputable def CT:Nat→Option CFun
 | 8=>some (.code an8)
 | 9=>some (.prim (a5d CT0))
 | 11=>some (.code alp)
 | 12=>some (.code alo)
 | 13=>some (.code adi)
 | 24=>some (.code aln)
 | 25=>some (.code aj6)
 | 26=>some (.code aiz)
 | 27=>some (.prim a9p)
 | 28=>some (.code aj5)
 | 29=>some (.code aj4)
 | 30=>some (.code aj3)
 | 31=>some (.code aj2)
 | 32=>some (.code aj1)
 | 33=>some (.prim apr)
 | _=>none
theorem CT_ok:∀ k c,CT k=some c→abg Tryd.prog (PXf (fun _=>none)) k c:=by
 intro k c h;unfold CT at h;split at h
 ·cases h;exact lc (fun _=>none) RA5_8
 ·cases h;exact auy
 ·cases h;exact lc (fun _=>none) bcq
 ·cases h;exact lc (fun _=>none) bcp
 ·cases h;exact lc (fun _=>none) a5r
 ·cases h;exact lc (fun _=>none) bco
 ·cases h;exact lc (fun _=>none) a5q
 ·cases h;exact lc (fun _=>none) a5p
 ·cases h;exact atf
 ·cases h;exact lc (fun _=>none) a5o
 ·cases h;exact lc (fun _=>none) a5n
 ·cases h;exact lc (fun _=>none) a5m
 ·cases h;exact lc (fun _=>none) a5l
 ·cases h;exact lc (fun _=>none) a5k
 ·cases h;exact apq
 ·cases h
theorem tl:TL CT:=⟨rfl,rfl,rfl,rfl,rfl,rfl,rfl,rfl,rfl⟩
theorem hP:ajv CT:=a1i rfl
theorem tsm:SamT CT:=by constructor <;> rfl
theorem law_true (a:ByteArray) (_ha:a.size≤maxLen) (b:ByteArray) (_hb:b.size≤maxLen):∃ m H',xx CT m (.fn 8 [] []) [.s (.string a),.s (.string b)] 0 []=some (bl true,H'):=by
 obtain ⟨H',h⟩:=ayj hP tsm rfl rfl tl rfl 0 (A:=[]) (ak _) a b;obtain ⟨m,hm⟩:=acv h;exact ⟨m,_,hm⟩
theorem a3g (os:Os) (started:os.Started) (H:Type) (enc:TypeId × Value→H):
 ReturnsInHanded {} Tryd.checked os 8 .any (fun w args=>(Rows.readJoinsSpec.pre enc Tryd.prog Tryd.f8 [] false w args∧laidMetH Tryd.prog Rows.readJoinsRow.laid w)∧sizedMet enc Tryd.prog Tryd.f8 (OpenSpec.ofChange Rows.readJoinsSpec) false w args) (Rows.readJoinsSpec.post enc Tryd.prog Tryd.f8 false true false false):=by
 refine returnsInHanded_of_change_and (C:=Tryd.checked) (X:=fun w _=>laidMetH Tryd.prog Rows.readJoinsRow.laid w) (fun _ _ _ hh h=>h.of_heap hh) own started (by kernel_rfl) Tryd.func8
  (ChangeSpec.witness_shaped (enc:=enc) (C:=Tryd.checked) (os:=os) (X:=fun w _=>laidMetH Tryd.prog Rows.readJoinsRow.laid w) false (World.doorLaid Tryd.prog 400 os) #[.string ⟨#[]⟩,.string ⟨#[]⟩] 8 rfl (World.shaped_of_RefB (by kernel_rfl) (by kernel_rfl)) (by kernel_rfl) (by kernel_rfl) (by kernel_rfl) (a4b os _)) ?_
 intro W base args ds gs before hval0 hW hcnd _ hL _;have hval:∀ (j:Nat) t v,Tryd.f8.params[j]?=some t→args[j]?=some v→Value.okWide Tryd.prog W .any base t v:=hval0;have hW':=hW;obtain ⟨p,q,hA0,hV,rfl,hfz,hnd⟩:=hW';have hA:DataW.TrodAll enc Tryd.prog W 0 (fun _=>true) true Tryd.f8.params.toList args.toList ds p:=hA0;rw [Tryd.params8] at hA hval;obtain ⟨v0,vs0,d0,ds0,p0,q0,ea0,ed0,ep0,h0,hA0⟩:=trodAll_cons hA;obtain ⟨v1,vs1,d1,ds1,p1,q1,ea1,ed1,ep1,h1,hA1⟩:=trodAll_cons hA0;obtain ⟨en,_,_⟩:=trodAll_nil hA1
 have ha:args=#[v0,v1]:=by
  apply ru;rw [ea0,ea1,en]
 have hok0:=hval 0 9 v0 (by simp) (by rw [ha];rfl)
 have hc0:v0.cells.toList=[v0]:=by
  unfold Value.okWide at hok0;rw [Tryd.underlying9] at hok0
  cases v0 <;> first | rfl | exact False.elim hok0
 obtain ⟨us0,hvs0,hvr0⟩:=asv (ty:=.str) (n:=40) (by kernel_rfl) hc0 h0
 obtain ⟨z0,he0,hz0⟩:=hvs0
 have hok1:=hval 1 9 v1 (by simp) (by rw [ha];rfl)
 have hc1:v1.cells.toList=[v1]:=by
  unfold Value.okWide at hok1;rw [Tryd.underlying9] at hok1
  cases v1 <;> first | rfl | exact False.elim hok1
 obtain ⟨us1,hvs1,hvr1⟩:=asv (ty:=.str) (n:=40) (by kernel_rfl) hc1 h1
 obtain ⟨z1,he1,hz1⟩:=hvs1
 refine ao1 (CP:=CT) (pure':=PXf (fun _=>none)) mixed CT_ok laidOut (by kernel_rfl) (by kernel_rfl) (tb:=4) rfl (by kernel_rfl) Tryd.underlying4 (fun t ht=>?_) (fun ds hl=>?_) hW ⟨[.s (.string z0),.s (.string z1)],?_,law_true z0 hz0 z1 hz1⟩ (fun B o e=>by cases e)
 ·rw [Tryd.params8] at ht;have:t∈[9,9]:=ht;simp only [kz,ze,or_false] at this
  rcases this with rfl | rfl <;> exact of_decide_eq_true (by kernel_rfl)
 ·rw [Tryd.params8] at hl
  match ds,hl with
  | [e0,e1],_=>rfl
 ·rw [ha];subst he0 he1;exact VRs.cons hvr0 (VRs.cons hvr1 (VRs.nil))
theorem said:Rows.ReadJoinsSaid:=
 OpenClaim.holds_of_wide 8 Tryd.f8 rfl rfl rfl rfl rfl rfl rfl ⟨rfl,rfl,rfl,rfl,rfl⟩ rfl rfl rfl rfl rfl (by kernel_rfl) Tryd.func8 (by kernel_rfl)
  (of_decide_eq_true (by kernel_rfl)) (by unfold Func.isWrapper;first | (rw [if_pos (by decide +kernel)];kernel_rfl) | (rw [if_neg (by decide +kernel)];exact ⟨rfl,rfl⟩))
  (fun os started H enc _=>a3g os started H enc)
theorem joins_holds:Rows.ReadJoinsCardSaid:=
 Claim7.holds_tied_plain_at .later [] [.data, .data, .data, .sentinel, .sentinel] true (true, "12adf0ebb9d285d22905482893ef80413d775dc0ad01c74e3b4c598610b084b0") true
  said (fun _ h=>by cases h) (by kernel_rfl) (fun _ h=>by cases h) readJoins_row_tie rfl ⟨rfl,rfl⟩ (by kernel_rfl) rfl
  (fun f fn hf hfn=>by
   obtain rfl:f=8:=ib ((show Tryd.prog.funcNamed Rows.readJoinsRow.func=some 8 by kernel_rfl).symm.trans hf) |>.symm
   obtain rfl:fn=Tryd.f8:=(ib (Tryd.func8.symm.trans hfn)).symm
   refine ⟨by kernel_rfl,fun j t ht=>?_⟩
   rw [Tryd.params8] at ht
   have hm:t∈[9,9]:=by
    have:=ac1 ht
    simpa using this
   simp only [kz,ze,or_false] at hm
   rcases hm with rfl | rfl
   ·exact (show Tryd.prog.wantsStandIn 9=false by kernel_rfl)
   ·exact (show Tryd.prog.wantsStandIn 9=false by kernel_rfl))
  (by kernel_rfl)
end Go.Proofs.YtbocmenkkjbigaaDoor
