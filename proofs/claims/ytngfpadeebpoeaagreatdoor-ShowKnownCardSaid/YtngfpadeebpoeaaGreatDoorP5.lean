/- Texts of the proof: ShoP2, ShnJ1, ShS4, ShoL1, ShoM1, ShoL2. -/
import Derived.Test.YtngfpadeebpoeaaGreatDoorP0
import Derived.Test.YtngfpadeebpoeaaGreatDoorP1
import Derived.Test.YtngfpadeebpoeaaGreatDoorP2
import Derived.Test.YtngfpadeebpoeaaGreatDoorP3
import Derived.Test.YtngfpadeebpoeaaGreatDoorP4
set_option linter.all false
set_option maxRecDepth 100000
namespace Go.Proofs.YtngfpadeebpoeaaGreatDoor
open Go.AM
structure TI (x:InsD):Prop where
 fo:FormOk x
 d:x.d.data.toList≠[]→Wd x.d.data.toList
 a:x.op=5∨x.op=7∨x.op=8∨x.op=9∨x.op=11→Wd x.a.data.toList
 r:x.op=14→x.a.data.toList=[]∨Wd x.a.data.toList
 b:x.op=9→Wd x.b.data.toList
 f:x.op=4∨x.op=10→Wd x.f.data.toList
 xs:x.op=6∨x.op=10∨x.op=11→∀ s∈x.xs,Wd s.data.toList
 ls:x.op=6∨x.op=12∨x.op=13→∀ s∈x.ls,Wd s.data.toList
theorem hasE_no {l:List ByteArray} (h:hasE l=false):∀ s∈l,s.data.toList≠[]:=by
 intro s hs e
 have:=List.any_eq_false.1 h s hs
 rw [e] at this
 exact this rfl
theorem TI.of {x:InsD} (h1:bnB (bnA (shp x.op) x) (shp x.op) x=false) (h2:biG x=false):TI x:=by
 have fo:=formOk_of h2
 unfold bnB bnA at h1
 simp only [Bool.or_eq_false_iff] at h1
 obtain ⟨⟨⟨⟨⟨hd,hf⟩,ha⟩,hb⟩,hx⟩,hl⟩:=h1
 unfold biG bi1 bi2 at h2
 simp only [Bool.or_eq_false_iff] at h2
 obtain ⟨⟨⟨⟨⟨⟨⟨⟨_,id⟩,ia⟩,ib⟩,ik⟩,if'⟩,ix⟩,il⟩,⟨⟨⟨jd,ja⟩,jb⟩,jf⟩,_⟩:=h2
 have fd:x.d.data.toList≠[]→Wd x.d.data.toList:=fun hn=>by
  cases e:(shp x.op).d with
  | true=>rw [e] at hd;exact badS_wd (by simpa using hd) hn
  | false=>rw [e] at id;exact absurd (by simpa using id) hn
 have fa:(shp x.op).a=true→x.op≠14→Wd x.a.data.toList:=fun e h14=>by
  rw [e] at ha ja
  have h14':(x.op != 14)=true:=bne_iff_ne.2 h14
  rw [h14'] at ja
  exact badS_wd (by simpa using ha) (by simpa using ja)
 have fb:(shp x.op).b=true→Wd x.b.data.toList:=fun e=>by
  rw [e] at hb jb
  exact badS_wd (by simpa using hb) (by simpa using jb)
 have ff:(shp x.op).f=true→Wd x.f.data.toList:=fun e=>by
  rw [e] at hf jf
  exact badS_wd (by simpa using hf) (by simpa using jf)
 have fx:(shp x.op).xs=true→∀ s∈x.xs,Wd s.data.toList:=fun e s hs=>by
  rw [e,Bool.true_and,Bool.or_eq_false_iff] at hx
  exact badS_wd (by have:=List.any_eq_false.1 hx.1 s hs;simpa using this) (hasE_no hx.2 s hs)
 have fl:(shp x.op).ls=true→∀ s∈x.ls,Wd s.data.toList:=fun e s hs=>by
  rw [e,Bool.true_and,Bool.or_eq_false_iff] at hl
  exact badS_wd (by have:=List.any_eq_false.1 hl.1 s hs;simpa using this) (hasE_no hl.2 s hs)
 refine ⟨fo,fd,fun hh=>?_,fun hh=>?_,fun hh=>?_,fun hh=>?_,fun hh=>?_,fun hh=>?_⟩
 ·rcases hh with e | e | e | e | e <;> exact fa (by rw [e];rfl) (by rw [e];decide)
 ·by_cases hn:x.a.data.toList=[]
  ·exact .inl hn
  ·refine .inr (badS_wd (op:=true) ?_ hn)
   rw [hh] at ha
   simpa [shp] using ha
 ·exact fb (by rw [hh];rfl)
 ·rcases hh with e | e <;> exact ff (by rw [e];rfl)
 ·rcases hh with e | e | e <;> exact fx (by rw [e];rfl)
 ·rcases hh with e | e | e <;> exact fl (by rw [e];rfl)
theorem GB.two {a b:ByteArray} (ha:GB a) (hb:GB b):GB (wordsT [a,b]):=GB.words (by simp) fun x hx=>by
 simp only [List.mem_cons,List.not_mem_nil,or_false] at hx
 rcases hx with rfl | rfl <;> assumption
theorem GB.three {a b c:ByteArray} (ha:GB a) (hb:GB b) (hc:GB c):GB (wordsT [a,b,c]):=GB.words (by simp) fun x hx=>by
 simp only [List.mem_cons,List.not_mem_nil,or_false] at hx
 rcases hx with rfl | rfl | rfl <;> assumption
theorem GB.lit {b:ByteArray} (h:b.data.toList≠[]∧b.data.toList.all (fun c=>decide (33≤c.toNat) && decide (c.toNat≤126))=true):GB b:=.w ⟨h.1,fun c hc=>by
 have:=List.all_eq_true.1 h.2 c hc
 simpa using this⟩
theorem GB.num {n:Int} (h0:0≤n) (h1:n < 100):GB (itB n):=by
 unfold GB itB
 rw [List.toList_toArray]
 exact .w (num_wd _ (by omega))
theorem words_two (a b:ByteArray):(wordsT [a,b]).data.toList=a.data.toList ++ (32 :: b.data.toList):=by
 unfold wordsT joinB Lib.join bSp
 rw [List.toList_toArray,List.map_cons,List.map_cons,List.map_nil,inter_two,inter_one]
 rfl
theorem GB.ret {x:InsD} (h:x.a.data.toList=[]∨Wd x.a.data.toList):GB (retT x):=by
 unfold GB retT
 rw [List.toList_toArray]
 rcases h with h | h
 ·rw [words_two,h]
  exact .w (by unfold Wd Lib.trimSuffix Lib.hasSuffix bRet;decide)
 ·have hg:GB (wordsT [bRet,x.a]):=.two (.lit (by decide)) (.w h)
  have:Lib.trimSuffix (wordsT [bRet,x.a]).data.toList [32]=(wordsT [bRet,x.a]).data.toList:=by
   unfold Lib.trimSuffix
   rw [if_neg]
   intro hs
   unfold Lib.hasSuffix at hs
   obtain ⟨t,ht⟩:=List.isSuffixOf_iff_suffix.1 hs
   have hl:=(GL.goodL hg).la
   rw [← ht] at hl
   simp at hl
  rw [this]
  exact hg
theorem prL_mem {x:InsD} {i:Nat} (hi:i≤x.ls.length) (hj:i≤x.xs.length) {s:ByteArray} (h:s∈prL x i):∃ a∈x.ls,∃ b∈x.xs,s=pairT a b:=by
 unfold prL at h
 obtain ⟨j,hj',rfl⟩:=List.mem_map.1 h
 rw [List.mem_range] at hj'
 refine ⟨_,?_,_,?_,rfl⟩
 ·rw [List.getD_eq_getElem?_getD,List.getElem?_eq_getElem (by omega)];exact List.getElem_mem _
 ·rw [List.getD_eq_getElem?_getD,List.getElem?_eq_getElem (by omega)];exact List.getElem_mem _
theorem GB.pairs {x:InsD} (hl:x.xs.length=x.ls.length) (h1:∀ s∈x.xs,Wd s.data.toList) (h2:∀ s∈x.ls,Wd s.data.toList):GB (pairsT x):=by
 unfold pairsT
 by_cases hn:x.ls.length=0
 ·have:prL x x.ls.length=[]:=by rw [hn];rfl
  rw [this,join_nil]
  exact .lit (by decide)
 ·refine .cat (.cat (.lit (by decide)) (.commas (fun e=>hn (by have:=congrArg List.length e;rw [prL_len] at this;exact this)) fun s hs=>?_)) (.lit (by decide))
  obtain ⟨a,ha,b,hb,rfl⟩:=prL_mem (Nat.le_refl _) (by omega) hs
  unfold GB pairT
  rw [cat_toList,cat_toList]
  have e:a.data.toList ++ bCol.data.toList ++ b.data.toList=(a.data.toList ++ [58]) ++ 32 :: b.data.toList:=by
   rw [show bCol.data.toList=[58,32] from rfl]
   simp
  rw [e]
  exact .sp (.cat (.w (h2 a ha)) (.w (by unfold Wd;decide))) (.w (h1 b hb))
theorem GB.form {x:InsD} (h:TI x):GB (formT x):=by
 have hk:=h.fo.k
 have g0:∀ i,i < x.ls.length→(x.op=6∨x.op=12∨x.op=13)→GB (x.ls.getD i ⟨#[]⟩):=fun i hi ho=>by
  rw [List.getD_eq_getElem?_getD,List.getElem?_eq_getElem hi]
  exact .w (h.ls ho _ (List.getElem_mem _))
 rcases h.fo.op with e | e | e | e | e | e | e | e | e | e | e | e | e | e
 ·rw [show formT x=wordsT [bAlloca,itB x.k] by simp [formT,e]]
  exact .two (.lit (by decide)) (.num (hk (by omega)).1 (hk (by omega)).2)
 ·rw [show formT x=wordsT [bMalloc,itB x.k] by simp [formT,e]]
  exact .two (.lit (by decide)) (.num (hk (by omega)).1 (hk (by omega)).2)
 ·rw [show formT x=bNull by simp [formT,e]]
  exact .lit (by decide)
 ·rw [show formT x=wordsT [bAddr,x.f] by simp [formT,e]]
  exact .two (.lit (by decide)) (.w (h.f (by omega)))
 ·rw [show formT x=wordsT [bCopy,x.a] by simp [formT,e]]
  exact .two (.lit (by decide)) (.w (h.a (by omega)))
 ·rw [show formT x=wordsT [bPhi,pairsT x] by simp [formT,e]]
  exact .two (.lit (by decide)) (.pairs (h.fo.phi e) (h.xs (by omega)) (h.ls (by omega)))
 ·rw [show formT x=wordsT [bField,x.a,itB x.k] by simp [formT,e]]
  exact .three (.lit (by decide)) (.w (h.a (by omega))) (.num (hk (by omega)).1 (hk (by omega)).2)
 ·rw [show formT x=wordsT [bLoad,x.a] by simp [formT,e]]
  exact .two (.lit (by decide)) (.w (h.a (by omega)))
 ·rw [show formT x=wordsT [bStore,x.a ++ bComma,x.b] by simp [formT,e]]
  exact .three (.lit (by decide)) (.cat (.w (h.a (by omega))) (.lit (by decide))) (.w (h.b (by omega)))
 ·rw [show formT x=wordsT [bCall,x.f ++ argsT x.xs] by simp [formT,e]]
  exact .two (.lit (by decide)) (.cat (.w (h.f (by omega))) (.args fun s hs=>.w (h.xs (by omega) s hs)))
 ·rw [show formT x=wordsT [bICall,x.a ++ argsT x.xs] by simp [formT,e]]
  exact .two (.lit (by decide)) (.cat (.w (h.a (by omega))) (.args fun s hs=>.w (h.xs (by omega) s hs)))
 ·rw [show formT x=wordsT [bBr,x.ls.getD 0 ⟨#[]⟩,x.ls.getD 1 ⟨#[]⟩] by simp [formT,e]]
  have:=h.fo.br e
  exact .three (.lit (by decide)) (g0 0 (by omega) (by omega)) (g0 1 (by omega) (by omega))
 ·rw [show formT x=wordsT [bGoto,x.ls.getD 0 ⟨#[]⟩] by simp [formT,e]]
  have:=h.fo.go e
  exact .two (.lit (by decide)) (g0 0 (by omega) (by omega))
 ·rw [show formT x=retT x by simp [formT,e]]
  exact .ret (h.r e)
theorem GB.lineX {x:InsD} (h:TI x):GB (lineX x):=by
 unfold Go.Proofs.YtngfpadeebpoeaaGreatDoor.lineX
 split
 ·exact .form h
 ·rename_i hn
  refine .three (.w (h.d fun e=>hn ?_)) (.lit (by decide)) (.form h)
  have:x.d.data.toList.length=x.d.size:=rfl
  rw [e] at this
  exact this.symm
structure TF (f:FunD):Prop where
 n:Wd f.name.data.toList
 ps:∀ s∈f.ps,Wd s.data.toList
 b:∀ b∈f.blocks,Wd b.label.data.toList∧∀ x∈b.code,TI x
theorem giF_no {G:Nat→Nat→Nat→Nat→InsD→Bool} {fs:List FunD} (h:gSrch G fs=none) {i:Nat} {f:FunD} (hf:fs[i]?=some f) {b:Nat} {x:BlkD} (hb:f.blocks[b]?=some x) {k:Nat} {y:InsD} (hy:x.code[k]?=some y):G (cF (fs.take i)+cI (f.blocks.take b)+k) i b k y=false:=by
 have h1:=srch_none.1 h i f hf
 have h2:=srch_none.1 h1 b x hb
 have h3:=srch_none.1 h2 k y hy
 simp only [Nat.zero_add] at h3
 unfold giI at h3
 rw [ite_eq_right_iff] at h3
 cases e:G (cF (fs.take i)+cI (f.blocks.take b)+k) i b k y with
 | false=>rfl
 | true=>cases h3 e
theorem ite_no {c:Prop} [Decidable c] {t:Pt} {r:Option Pt} (h:(if c then some t else r)=none):¬ c∧r=none:=by
 split at h
 ·cases h
 ·exact ⟨by assumption,h⟩
theorem not_no {b:Bool} (h:¬ (!b)=true):b=true:=by cases b <;> simp_all
theorem TF.of {fs:List FunD} (h2:firstN fs 2=none) (h9:firstN fs 9=none):∀ f∈fs,TF f:=by
 intro f hf
 obtain ⟨i,hi⟩:=List.mem_iff_getElem?.1 hf
 have b1:=ite_no (by have:=srch_none.1 (show srch bnF fs 0=none from h2) i f hi;exact this)
 have hnp:=b1.1
 rw [Bool.or_eq_true,not_or] at hnp
 refine ⟨isName_wd (not_no hnp.1),fun s hs=>isName_wd ?_,fun b hb=>?_⟩
 ·cases e:isName s with
  | true=>rfl
  | false=>exact absurd (List.any_eq_true.2 ⟨s,hs,by rw [e];rfl⟩) hnp.2
 ·obtain ⟨j,hj⟩:=List.mem_iff_getElem?.1 hb
  have b2:=ite_no (srch_none.1 b1.2 j b hj)
  refine ⟨isName_wd (not_no b2.1),fun x hx=>?_⟩
  obtain ⟨k,hk⟩:=List.mem_iff_getElem?.1 hx
  have b3:=(ite_no (srch_none.1 b2.2 k x hk)).1
  exact .of (Bool.not_eq_true _ ▸ b3) (giF_no (show gSrch (fun _=>fun _ _ _ x=>biG x) fs=none from h9) hi hj hk)
end Go.Proofs.YtngfpadeebpoeaaGreatDoor
set_option maxRecDepth 100000
namespace Go.Proofs.YtngfpadeebpoeaaGreatDoor
open Go.AM
def InsL (x:InsD):Prop:=x.d.size≤200∧x.a.size≤200∧x.b.size≤200∧x.f.size≤200∧x.xs.length≤20∧x.ls.length≤20∧(∀ s∈x.xs,s.size≤200)∧∀ s∈x.ls,s.size≤200
def BlkL (b:BlkD):Prop:=b.label.size≤200∧b.code.length≤200∧∀ x∈b.code,InsL x
def FunL (f:FunD):Prop:=f.name.size≤200∧f.ps.length≤20∧(∀ s∈f.ps,s.size≤200)∧f.blocks.length≤70∧∀ b∈f.blocks,BlkL b
structure Light (fs:List FunD):Prop where
 n:fs.length≤70
 f:∀ f∈fs,FunL f
 c:cF fs≤200
section
variable {CT:Nat→Option CFun}
end
end Go.Proofs.YtngfpadeebpoeaaGreatDoor
set_option maxRecDepth 100000
namespace Go.Proofs.YtngfpadeebpoeaaGreatDoor
open Go.AM
abbrev k_f8:Nat:=8
def K8_0:List Nat:=List.range' 0 23
theorem s_f8_r0_kT:killV K8_0 (startV 23 [] 0)=[]:=by kernel_rfl
def R8_0:LO:=[⟨some 0,.move (.c (.s (.bool false))),none⟩]
def T8_0:=hT R8_0 K8_0 [] 1 [] [] [.cc (.s (.bool false))]
def R8_1t11:LO:=[oM 3 14,⟨some 15,.extract (.t 3) 0,none⟩,⟨some 16,.extract (.t 3) 1,none⟩,oM 1 15,oM 2 16]
def R8_1t10:LO:=⟨some 14,.call (.c (.fn 10 [] [])) [.t 13],none⟩ :: R8_1t11
def R8_1p9:LO:=[⟨some 13,.build [.s (.slice none 0 0)] [(0,1)] [(0,.t 12)],none⟩]
def R8_1t9:LO:=R8_1p9 ++ R8_1t10
def R8_1t8:LO:=⟨some 12,.buildSl 3 1 [.s (.string ⟨#[]⟩),.s (.slice none 0 0),.s (.slice none 0 0)] [(0,.t 11)],none⟩ :: R8_1t9
def R8_1p7:LO:=[⟨some 11,.build [.s (.string ⟨#[]⟩),.s (.slice none 0 0),.s (.slice none 0 0)] [(0,1),(1,1),(2,1)] [(0,.c (.s (.string ⟨#[102]⟩))),(1,.t 4),(2,.t 10)],none⟩]
def R8_1t7:LO:=R8_1p7 ++ R8_1t8
def R8_1t6:LO:=⟨some 10,.buildSl 2 1 [.s (.string ⟨#[]⟩),.s (.slice none 0 0)] [(0,.t 9)],none⟩ :: R8_1t7
def R8_1p5:LO:=[⟨some 9,.build [.s (.string ⟨#[]⟩),.s (.slice none 0 0)] [(0,1),(1,1)] [(0,.c (.s (.string ⟨#[97]⟩))),(1,.t 8)],none⟩]
def R8_1t5:LO:=R8_1p5 ++ R8_1t6
def R8_1t4:LO:=⟨some 8,.buildSl 8 1 [.s (.int .u8 0),.s (.string ⟨#[]⟩),.s (.string ⟨#[]⟩),.s (.string ⟨#[]⟩),.s (.int .i64 0),.s (.string ⟨#[]⟩),.s (.slice none 0 0),.s (.slice none 0 0)] [(0,.t 7)],none⟩ :: R8_1t5
def R8_1p3:LO:=[⟨some 7,.build [.s (.int .u8 0),.s (.string ⟨#[]⟩),.s (.string ⟨#[]⟩),.s (.string ⟨#[]⟩),.s (.int .i64 0),.s (.string ⟨#[]⟩),.s (.slice none 0 0),.s (.slice none 0 0)] [(0,1),(1,1),(2,1),(3,1),(4,1),(5,1),(6,1),(7,1)] [(0,.c (.s (.int .u8 6))),(1,.c (.s (.string ⟨#[104]⟩))),(6,.t 5),(7,.t 6)],none⟩]
def R8_1t3:LO:=R8_1p3 ++ R8_1t4
def R8_1t2:LO:=⟨some 6,.buildSl 1 2 [.s (.string ⟨#[]⟩),.s (.string ⟨#[]⟩)] [(0,.c (.s (.string ⟨#[97]⟩))),(1,.c (.s (.string ⟨#[98]⟩)))],none⟩ :: R8_1t3
def R8_1t1:LO:=⟨some 5,.buildSl 1 2 [.s (.string ⟨#[]⟩),.s (.string ⟨#[]⟩)] [(0,.c (.s (.string ⟨#[120]⟩))),(1,.c (.s (.string ⟨#[110,117,108,108]⟩)))],none⟩ :: R8_1t2
def R8_1:LO:=⟨some 4,.buildSl 1 2 [.s (.string ⟨#[]⟩),.s (.string ⟨#[]⟩)] [(0,.c (.s (.string ⟨#[112]⟩))),(1,.c (.s (.string ⟨#[113]⟩)))],none⟩ :: R8_1t1
def X8_1:=hP R8_1 R8_1t1 [] [3,4,5,6,7,8,9,10,11,12,13,14,15,16] ⟨some 4,.buildSl 1 2 [.s (.string ⟨#[]⟩),.s (.string ⟨#[]⟩)] [(0,.c (.s (.string ⟨#[112]⟩))),(1,.c (.s (.string ⟨#[113]⟩)))],none⟩
def X8_1t1:=hP R8_1t1 R8_1t2 [] [3,4,5,6,7,8,9,10,11,12,13,14,15,16] ⟨some 5,.buildSl 1 2 [.s (.string ⟨#[]⟩),.s (.string ⟨#[]⟩)] [(0,.c (.s (.string ⟨#[120]⟩))),(1,.c (.s (.string ⟨#[110,117,108,108]⟩)))],none⟩
def X8_1t2:=hP R8_1t2 R8_1t3 [] [3,4,5,6,7,8,9,10,11,12,13,14,15,16] ⟨some 6,.buildSl 1 2 [.s (.string ⟨#[]⟩),.s (.string ⟨#[]⟩)] [(0,.c (.s (.string ⟨#[97]⟩))),(1,.c (.s (.string ⟨#[98]⟩)))],none⟩
def T8_1p3:=hT R8_1p3 [5,6] [7] 8 [] [(7,.op (.build [.s (.int .u8 0),.s (.string ⟨#[]⟩),.s (.string ⟨#[]⟩),.s (.string ⟨#[]⟩),.s (.int .i64 0),.s (.string ⟨#[]⟩),.s (.slice none 0 0),.s (.slice none 0 0)] [(0,1),(1,1),(2,1),(3,1),(4,1),(5,1),(6,1),(7,1)] [(0,.c (.s (.int .u8 6))),(1,.c (.s (.string ⟨#[104]⟩))),(6,.t 2),(7,.t 3)]) [.c (.s (.int .u8 6)),.c (.s (.string ⟨#[104]⟩)),.t 5,.t 6])] [sb []]
def X8_1t3:=hS R8_1t3 R8_1p3 R8_1t4 [5,6] [7] [3,4,5,6,7,8,9,10,11,12,13,14,15,16]
def X8_1t4:=hP R8_1t4 R8_1t5 [7] [3,4,5,6,7,8,9,10,11,12,13,14,15,16] ⟨some 8,.buildSl 8 1 [.s (.int .u8 0),.s (.string ⟨#[]⟩),.s (.string ⟨#[]⟩),.s (.string ⟨#[]⟩),.s (.int .i64 0),.s (.string ⟨#[]⟩),.s (.slice none 0 0),.s (.slice none 0 0)] [(0,.t 7)],none⟩
def T8_1p5:=hT R8_1p5 [8] [9] 10 [] [(9,.op (.build [.s (.string ⟨#[]⟩),.s (.slice none 0 0)] [(0,1),(1,1)] [(0,.c (.s (.string ⟨#[97]⟩))),(1,.t 1)]) [.c (.s (.string ⟨#[97]⟩)),.t 8])] [sb []]
def X8_1t5:=hS R8_1t5 R8_1p5 R8_1t6 [8] [9] [3,4,5,6,7,8,9,10,11,12,13,14,15,16]
def X8_1t6:=hP R8_1t6 R8_1t7 [9] [3,4,5,6,7,8,9,10,11,12,13,14,15,16] ⟨some 10,.buildSl 2 1 [.s (.string ⟨#[]⟩),.s (.slice none 0 0)] [(0,.t 9)],none⟩
def T8_1p7:=hT R8_1p7 [4,10] [11] 12 [] [(11,.op (.build [.s (.string ⟨#[]⟩),.s (.slice none 0 0),.s (.slice none 0 0)] [(0,1),(1,1),(2,1)] [(0,.c (.s (.string ⟨#[102]⟩))),(1,.t 1),(2,.t 2)]) [.c (.s (.string ⟨#[102]⟩)),.t 4,.t 10])] [sb []]
def X8_1t7:=hS R8_1t7 R8_1p7 R8_1t8 [4,10] [11] [3,4,5,6,7,8,9,10,11,12,13,14,15,16]
def X8_1t8:=hP R8_1t8 R8_1t9 [11] [3,4,5,6,7,8,9,10,11,12,13,14,15,16] ⟨some 12,.buildSl 3 1 [.s (.string ⟨#[]⟩),.s (.slice none 0 0),.s (.slice none 0 0)] [(0,.t 11)],none⟩
def T8_1p9:=hT R8_1p9 [12] [13] 14 [] [(13,.op (.build [.s (.slice none 0 0)] [(0,1)] [(0,.t 0)]) [.t 12])] [sb []]
def X8_1t9:=hS R8_1t9 R8_1p9 R8_1t10 [12] [13] [3,4,5,6,7,8,9,10,11,12,13,14,15,16]
def X8_1t10:=hP R8_1t10 R8_1t11 [13] [3,4,5,6,7,8,9,10,11,12,13,14,15,16] ⟨some 14,.call (.c (.fn 10 [] [])) [.t 13],none⟩
def T8_1t11:=hT R8_1t11 [3,4,5,6,7,8,9,10,11,12,13,14,15,16] [1,2] 17 [] [(1,.op (.extract (.t 0) 0) [.t 14]),(2,.op (.extract (.t 0) 1) [.t 14])] [.tt 14,sb [],.sub 1 [] [],sb [],.sub 1 [] []]
def X8_1t11:=hL R8_1t11 [3,4,5,6,7,8,9,10,11,12,13,14,15,16] [1,2]
def R8_2:LO:=[oM 17 2,⟨some 18,.bin .eql (.t 17) (.c (.s (.int .i64 0))),none⟩,oM 19 18,gM 20 1 19 true,⟨some 21,.bin .eql (.t 20) (.c (.s (.string ⟨#[102,117,110,99,32,102,40,112,44,32,113,41,32,123,10,97,58,10,32,32,104,32,61,32,112,104,105,32,91,97,58,32,120,44,32,98,58,32,110,117,108,108,93,10,125,10]⟩))),some (19,true)⟩,⟨some 22,.pick (.t 19) (.t 21) (.c (.s (.bool false))),none⟩,oM 0 22]
def T8_2:=hT R8_2 [1,2,17,18,19,20,21,22] [0] 23 [] [(0,.pick (.op (.bin .eql (.t 0) (.c (.s (.int .i64 0)))) [.t 2,.c (.s (.int .i64 0))]) (.op (.bin .eql (.t 0) (.c (.s (.string ⟨#[102,117,110,99,32,102,40,112,44,32,113,41,32,123,10,97,58,10,32,32,104,32,61,32,112,104,105,32,91,97,58,32,120,44,32,98,58,32,110,117,108,108,93,10,125,10]⟩)))) [.t 1,.c (.s (.string ⟨#[102,117,110,99,32,102,40,112,44,32,113,41,32,123,10,97,58,10,32,32,104,32,61,32,112,104,105,32,91,97,58,32,120,44,32,98,58,32,110,117,108,108,93,10,125,10]⟩))]) (.c (.s (.bool false))))] [.tt 2,sb [0],sb [0],.sub 0 [1,0] [19],.sub 0 [1] [19],sb [],sb []]
def s_f8:ACFun:={ ntmps:=23,results:=[.tmp 0],body:=
 (.seq (.regionE R8_0 K8_0 [])
 (.seq (.region R8_1 [] [3,4,5,6,7,8,9,10,11,12,13,14,15,16])
 (.seq (.regionE R8_2 [1,2,17,18,19,20,21,22] [0])
 .ret))) }
def a_f8:=ai T8_0 (ai s_f8_r0_kT (ai X8_1 (ai X8_1t1 (ai X8_1t2 (ai T8_1p3 (ai X8_1t3 (ai X8_1t4 (ai T8_1p5 (ai X8_1t5 (ai X8_1t6 (ai T8_1p7 (ai X8_1t7 (ai X8_1t8 (ai T8_1p9 (ai X8_1t9 (ai X8_1t10 (ai T8_1t11 (ai X8_1t11 (T8_2)))))))))))))))))))
theorem SA4_8:compK Tryz.prog PX0 8=some (false,s_f8.ntmps,s_f8.results,s_f8.body.bare):=by kernel_rfl
end Go.Proofs.YtngfpadeebpoeaaGreatDoor
set_option maxRecDepth 100000
namespace Go.Proofs.YtngfpadeebpoeaaGreatDoor
open Go.AM
section
variable {CT:Nat→Option CFun}
end
end Go.Proofs.YtngfpadeebpoeaaGreatDoor
set_option maxRecDepth 100000
namespace Go.Proofs.YtngfpadeebpoeaaGreatDoor
open Go.AM
def teX:List ByteArray:=[⟨#[120]⟩,⟨#[110,117,108,108]⟩]
def teL:List ByteArray:=[⟨#[97]⟩,⟨#[98]⟩]
def teP:List ByteArray:=[⟨#[112]⟩,⟨#[113]⟩]
def teI:InsD:=⟨6,⟨#[104]⟩,⟨#[]⟩,⟨#[]⟩,0,⟨#[]⟩,teX,teL⟩
def teF:List FunD:=[⟨⟨#[102]⟩,teP,[⟨⟨#[97]⟩,[teI]⟩]⟩]
theorem teF_small:Small teF:=by
 refine ⟨by decide,fun f hf=>?_,fun f hf=>?_,fun f hf b hb=>?_,fun f hf b hb x hx=>?_,fun f hf b hb x hx=>?_⟩ <;> (obtain rfl:=List.mem_singleton.1 hf)
 ·decide
 ·decide
 ·obtain rfl:=List.mem_singleton.1 hb;decide
 ·obtain rfl:=List.mem_singleton.1 hb;obtain rfl:=List.mem_singleton.1 hx;decide
 ·obtain rfl:=List.mem_singleton.1 hb;obtain rfl:=List.mem_singleton.1 hx;decide
theorem teF_2:firstN teF 2=none:=by decide
theorem teF_9:firstN teF 9=none:=by decide
theorem teF_sm:∀ f∈teF,SmF f:=by
 intro f hf
 obtain rfl:=List.mem_singleton.1 hf
 refine ⟨by decide,by decide,by decide,fun b hb=>?_,by decide⟩
 obtain rfl:=List.mem_singleton.1 hb
 refine ⟨by decide,fun x hx=>?_,by decide⟩
 obtain rfl:=List.mem_singleton.1 hx
 exact ⟨⟨by decide,by decide,by decide,by decide,by decide,by decide,by decide,by decide⟩,formOk_of (by decide)⟩
def teT:List UInt8:=[102,117,110,99,32,102,40,112,44,32,113,41,32,123,10,97,58,10,32,32,104,32,61,32,112,104,105,32,91,97,58,32,120,44,32,98,58,32,110,117,108,108,93,10,125,10]
theorem teF_text:progT teF=teT:=by decide
section
variable {CT:Nat→Option CFun}
theorem tells_fun (h:PriT CT) (hT:CT k_f8=some (.code s_f8)) (base:Nat) {A:Heap} (hb:base≤A.length):
 ∃ H',callW CT (.fn k_f8 [] []) [] base A=some (.s (.bool true),H')∧Ext A H':=by
 obtain ⟨A1,hA1⟩:∃ A1,A ++ [Ob.cells 0 (teP.map Sb)]=A1:=⟨_,rfl⟩
 have l1:A1.length=A.length+1:=by rw [← hA1,len_snoc]
 obtain ⟨A2,hA2⟩:∃ A2,A1 ++ [Ob.cells 0 (teX.map Sb)]=A2:=⟨_,rfl⟩
 have l2:A2.length=A.length+2:=by rw [← hA2,len_snoc,l1]
 obtain ⟨A3,hA3⟩:∃ A3,A2 ++ [Ob.cells 0 (teL.map Sb)]=A3:=⟨_,rfl⟩
 have l3:A3.length=A.length+3:=by rw [← hA3,len_snoc,l2]
 obtain ⟨A4,hA4⟩:∃ A4,A3 ++ [Ob.cells 0 (insC teI (.sl (A.length+1) 0 0 2 1) (.sl (A.length+2) 0 0 2 1))]=A4:=⟨_,rfl⟩
 have l4:A4.length=A.length+4:=by rw [← hA4,len_snoc,l3]
 obtain ⟨A5,hA5⟩:∃ A5,A4 ++ [Ob.cells 0 [Sb ⟨#[97]⟩,.sl (A.length+3) 0 0 1 8]]=A5:=⟨_,rfl⟩
 have l5:A5.length=A.length+5:=by rw [← hA5,len_snoc,l4]
 obtain ⟨A6,hA6⟩:∃ A6,A5 ++ [Ob.cells 0 [Sb ⟨#[102]⟩,.sl A.length 0 0 2 1,.sl (A.length+4) 0 0 1 2]]=A6:=⟨_,rfl⟩
 have e1:Ext A A1:=hA1 ▸ Ext.app _ _
 have e2:Ext A1 A2:=hA2 ▸ Ext.app _ _
 have e3:Ext A2 A3:=hA3 ▸ Ext.app _ _
 have e4:Ext A3 A4:=hA4 ▸ Ext.app _ _
 have e5:Ext A4 A5:=hA5 ▸ Ext.app _ _
 have e6:Ext A5 A6:=hA6 ▸ Ext.app _ _
 have g1:getC A6 A.length 0=some (teP.map Sb):=getC_ext (hA1 ▸ getC_new A 0 _) (e2.trans (e3.trans (e4.trans (e5.trans e6))))
 have g2:getC A6 (A.length+1) 0=some (teX.map Sb):=getC_ext (by rw [← l1,← hA2];exact getC_new A1 0 _) (e3.trans (e4.trans (e5.trans e6)))
 have g3:getC A6 (A.length+2) 0=some (teL.map Sb):=getC_ext (by rw [← l2,← hA3];exact getC_new A2 0 _) (e4.trans (e5.trans e6))
 have g4:getC A6 (A.length+3) 0=some (insC teI (.sl (A.length+1) 0 0 2 1) (.sl (A.length+2) 0 0 2 1)):=getC_ext (by rw [← l3,← hA4];exact getC_new A3 0 _) (e5.trans e6)
 have g5:getC A6 (A.length+4) 0=some [Sb ⟨#[97]⟩,.sl (A.length+3) 0 0 1 8]:=getC_ext (by rw [← l4,← hA5];exact getC_new A4 0 _) e6
 have g6:getC A6 (A.length+5) 0=some [Sb ⟨#[102]⟩,.sl A.length 0 0 2 1,.sl (A.length+4) 0 0 1 2]:=by rw [← l5,← hA6];exact getC_new A5 0 _
 have r1:Rd A6 (.sl A.length 0 0 2 1) (teP.map Sb):=Rd.sl g1 (off:=0) (n:=2) (by simp [teP])
 have r2:Rd A6 (.sl (A.length+1) 0 0 2 1) (teX.map Sb):=Rd.sl g2 (off:=0) (n:=2) (by simp [teX])
 have r3:Rd A6 (.sl (A.length+2) 0 0 2 1) (teL.map Sb):=Rd.sl g3 (off:=0) (n:=2) (by simp [teL])
 have hI:RdL 8 RdIns A6 (.sl (A.length+3) 0 0 1 8) [teI]:=
  ⟨[insC teI (.sl (A.length+1) 0 0 2 1) (.sl (A.length+2) 0 0 2 1)],RdW.sl (R:=[insC teI (.sl (A.length+1) 0 0 2 1) (.sl (A.length+2) 0 0 2 1)]) (by rw [g4];rfl) (fun r hr=>by rw [List.mem_singleton.1 hr];rfl),rfl,by decide,fun i x hx=>by
   cases i with
   | zero=>cases hx;exact ⟨_,rfl,_,_,rfl,r2,trivial,r3,trivial,by decide⟩
   | succ i=>simp at hx⟩
 have hB:RdL 2 RdBlk A6 (.sl (A.length+4) 0 0 1 2) [⟨⟨#[97]⟩,[teI]⟩]:=
  ⟨[[Sb ⟨#[97]⟩,.sl (A.length+3) 0 0 1 8]],RdW.sl (R:=[[Sb ⟨#[97]⟩,.sl (A.length+3) 0 0 1 8]]) (by rw [g5];rfl) (fun r hr=>by rw [List.mem_singleton.1 hr];rfl),rfl,by decide,fun i x hx=>by
   cases i with
   | zero=>cases hx;exact ⟨_,rfl,_,rfl,hI⟩
   | succ i=>simp at hx⟩
 have hP:RdProg A6 (.sl (A.length+5) 0 0 1 3) teF:=
  ⟨[[Sb ⟨#[102]⟩,.sl A.length 0 0 2 1,.sl (A.length+4) 0 0 1 2]],RdW.sl (R:=[[Sb ⟨#[102]⟩,.sl A.length 0 0 2 1,.sl (A.length+4) 0 0 1 2]]) (by rw [g6];rfl) (fun r hr=>by rw [List.mem_singleton.1 hr];rfl),rfl,by decide,fun i x hx=>by
   cases i with
   | zero=>cases hx;exact ⟨_,rfl,_,_,rfl,r1,trivial,by decide,hB⟩
   | succ i=>exact absurd hx (by simp [teF])⟩
 have eA:Ext A A6:=e1.trans (e2.trans (e3.trans (e4.trans (e5.trans e6))))
 obtain ⟨H',hc,hE⟩:=print_ok h base (A:=A6) (by have:=eA.le;omega) hP teF_small teF_2 teF_9 teF_sm (by rw [teF_text];decide)
 rw [teF_text,if_neg (by decide)] at hc
 refine ⟨H',callW_fn (c:=s_f8) hT (by simp [s_f8]) ?_,eA.trans hE⟩
 simp only [Sb,Iz] at hc
 simp only [insC,teI,Sb,Iz,nilS,teP,teX,teL,List.map_cons,List.map_nil] at hA1 hA2 hA3 hA4 hA5 hA6
 have hq:(teT.toArray.toList == teT)=true:=by decide
 simp only [teT] at hc hq
 simp only [Iz,Sb,bl,nilS,s_f8,a_f8,aa,reduceIte,reduceCtorEq,Nat.reduceEqDiff,Nat.reduceLT,Nat.reduceLeDiff,Nat.reduceBEq,Nat.reduceAdd,Nat.reduceMul,op_appR,hA1,l1,hA2,l2,hA3,l3,hA4,l4,hA5,l5,hA6,hc,hq]
end
end Go.Proofs.YtngfpadeebpoeaaGreatDoor
set_option maxRecDepth 100000
namespace Go.Proofs.YtngfpadeebpoeaaGreatDoor
open Go.AM
theorem SmI.of {x:InsD} (h:InsL x):SmI x:=⟨h.1,h.2.1,h.2.2.1,h.2.2.2.1,h.2.2.2.2.1,h.2.2.2.2.2.1,h.2.2.2.2.2.2.1,h.2.2.2.2.2.2.2⟩
theorem SmF.of {fs:List FunD} (h:Light fs) (ht:∀ f∈fs,TF f):∀ f∈fs,SmF f:=by
 intro f hf
 obtain ⟨h1,h2,h3,h4,h5⟩:=h.f f hf
 refine ⟨h1,h2,h3,fun b hb=>⟨(h5 b hb).1,fun x hx=>⟨.of ((h5 b hb).2.2 x hx),(((ht f hf).b b hb).2 x hx).fo⟩,by have:=(h5 b hb).2.1;omega⟩,by omega⟩
section
variable {CT:Nat→Option CFun}
structure LawT (CT:Nat→Option CFun):Prop where
 P:PriT CT
 tells:CT k_f8=some (.code s_f8)
 long:CT k_f15=some (.code s_f15)
 heavy:CT k_f7=some (.code s_f7)
end
end Go.Proofs.YtngfpadeebpoeaaGreatDoor
