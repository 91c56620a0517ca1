/- Texts of the proof: Am22, Am23, AmS, AmT, AmF, AmG, AmL, AmQ0, AmQ, AmW, AmD, AmD2, ShoX0, AmD3, AmV, AmR, AmB, BitsP, AmM, AmN, AmO, AmY, AmZ, AmI, TokQ, TokG, AmJ, AmU, AmU2, AmH, ShnA1, ShnArg, SbSh, RqA1, TokP, TokP2, TokP3, RqP1, AmP, AmPk, AmPn, AmPn2, AmPr. -/
import Derived.Test.YtngfpadeebpoeaaGreatDoorP0
import Derived.Test.YtngfpadeebpoeaaGreatDoorP1
import Derived.ProofKit
import Derived.ReadAgain
import Derived.Laws.BitsLemmas
import Derived.Shelf.Sort.Plain
import Derived.Shelf.SlIterI.Nil
import Derived.Shelf.SlMaps.Clone
import Derived.Shelf.Spec.TrailingZeros
import Derived.Lib.Join
import Derived.Lib.ItoaNum
import Derived.Shelf.Strings.Builder1
import Derived.Shelf.Strings.OnBuilder
import Derived.Shelf.Strings.Prefix
import Derived.Shelf.Strconv.Itoa3
import Derived.Lib.Strings
import Derived.OpenShut
import Derived.ChangeArms
import Derived.FnData
import Derived.DataReads
import Derived.ChangeOld
import Derived.Lib.Atoi
import Derived.Lib.Bytealg
import Derived.Shelf.Small.Strs
import Derived.Shelf.Strconv.Atoi
import Derived.Test.YtngfpadeebpoeaaGreatDoorProg
import Derived.KernelRfl
import Derived.RecoverIn
import Derived.Laws.Build
import Derived.WalkSmall
set_option linter.all false
namespace Go.ea
def tN(c c':c5):Prop:=∀v args base H r,c v args base H=some r->c' v args base H=some r
def Pe{c c':c5}(h:tN c c'){base:Nat}{fr:List V}{H:ad}{op:bY}{r:V × ad}(he:bf c base fr H op=some r):bf c' base fr H op=some r:=by
 cases op
 case call f xs=>exact h _ _ _ _ _ he
 case mK f xs=>exact h _ _ _ _ _ he
 case sq f xs=>
  simp only[bf]at he |-;split at he
  .rename_i us lB;split at he
   .rename_i v H' ab;rw[h _ _ _ _ _ ab];exact he
   .cases he
  .cases he
 case xI f xs=>
  simp only[bf]at he |-;split at he
  .rename_i ay;rw[bE ay];split at he
   .rename_i v H' ab;rw[h _ _ _ _ _ ab];exact he
   .cases he
  .cases he
 all_goals exact he
def Lq{c c':c5}(h:tN c c'){base:Nat}:∀(l:List bx) {fr:List V} {H:ad} {r:List V × ad},cI c base l fr H=some r->cI c' base l fr H=some r:=by
 intro l
 induction l with
 |nil=>intro fr H r he;exact he
 |cons o l aF=>
   intro fr H r he;simp only[cI]at he |-;split at he
   .cases he
   .exact aF he
   .split at he
    .rename_i v H1 J;rw[Pe h J];exact aF he
    .cases he
def aPF{c:c5}{base:Nat}:∀(l:List bx) {fr:List V} {H:ad} {r:List V × ad},cI c base l fr H=some r->∀k,∃afc,cI c base (l.take k) fr H=some afc:=by
 intro l fr H r h k;rw[<- uH k l,Ll]at h
 grind
def auS{c c':c5}(h:tN c c'){base:Nat}{l:List bx}{fr aW:List V}{H:ad}{r:List V × ad}(he:cI c base l fr H=some r):tD c' base l fr H aW=tD c base l fr H aW:=by
 have an:∀k,cI c' base (l.take k) fr H=cI c base (l.take k) fr H:=fun k=>by
  obtain⟨afc,ak⟩:=aPF l he k;rw[ak];exact Lq h _ ak
 funext p
 simp only[tD,Da,an]
def JD{b b':List V->ad->Option cy}(ah:∀fr H r,b fr H=some r->b' fr H=some r){kill:List Nat}{m:Nat}:∀{n ek:Nat},n<=ek->∀{fr:List V} {H:ad} {r:cy},gd b kill m n fr H=some r->gd b' kill m ek fr H=some r:=by
 intro n
 induction n with
 |zero=>intro ek _ fr H r h;simp[gd]at h
 |succ n aF=>
   intro ek aJ fr H r h
   obtain⟨k,rfl⟩:∃k,ek=k+1:=⟨ek-1,by omega⟩
   simp only[gd]at h |-
   grind
abbrev pJ(n:Nat):hE:=fun b k m=>gd b k m n
def Bu{c c':c5}(h:tN c c'){n ek:Nat}(aJ:n<=ek){base:Nat}:∀(ac:bZ) {fr:List V} {H:ad} {r:cy},aL c (pJ n) base ac fr H=some r->aL c' (pJ ek) base ac fr H=some r:=by
 intro ac
 induction ac with
 |skip=>intro fr H r he;exact he
 |bh ops kill j7=>intro fr H r he;exact he
 |region ops ct kill=>
   intro fr H r he;simp only[aL]at he |-;split at he
   .rename_i cw H1 J;rw[Lq h ops J];simp only[auS h J];exact he
   .cases he
 |seq a b iU kb=>
   intro fr H r he;simp only[aL]at he |-
   grind
 |cond o a b iU kb=>
   intro fr H r he;simp only[aL]at he |-
   grind
 |block id a aF=>
   intro fr H r he;simp only[aL]at he |-
   grind
 |loop kill a aF=>
   intro fr H r he;simp only[aL]at he |-;exact JD (fun fr H r=>aF) aJ he
 |rangeFunc f ps a b _ _=>
   intro fr H r he;simp only[aL]at he |-;split at he
   .split at he
    .rename_i v bH ab;rw[h _ _ _ _ _ ab];exact he
    .cases he
   .cases he
 |exit id=>intro fr H r he;exact he
 |ret=>intro fr H r he;exact he
def aMm{b1:Nat->Option cz}{c c':c5}(h:tN c c'){n ek:Nat}(aJ:n<=ek):tN (iT b1 c (pJ n)) (iT b1 c' (pJ ek)):=by
 intro v args base H r he
 cases v<;>simp only[iT]at he |-<;>first|(cases he;done)|skip
 case fn f x y=>
  split at he
  .rename_i aMQ ug;split at he
   .rename_i cw H1 J;rw[Bu h aJ _ J];exact he
   .rename_i cw H1 J;rw[Bu h aJ _ J];exact he
   .cases he
  .exact he
  .cases he
 case ff id=>
  split at he
  case isFalse=>cases he
  rename_i ah;rw[bE ah];split at he
  case h_2=>cases he
  split at he
  case h_2=>cases he
  split at he
  case h_2=>cases he
  rename_i J;rw[Bu h aJ _ J];simp only[];split at he
  case h_2=>cases he
  split at he
  case h_2=>cases he
  rename_i aa;rw[Bu h aJ _ aa];exact he
def RQ{b1:Nat->Option cz}:∀n,tN (iq b1 n) (iq b1 (n+1))
 |0=>fun _ _ _ _ _ h=>by cases h
 |n+1=>aMm (RQ n) (GA n)
theorem rK {b1:Nat→Option cz} {n m:Nat} (h:n≤m):tN (iq b1 n) (iq b1 m):=by
 induction m with
 | zero=>have:n=0:=by omega
         subst this;exact fun _ _ _ _ _ h=>h
 | succ m aF=>
   by_cases aJ:n=m+1
   ·subst aJ;exact fun _ _ _ _ _ h=>h
   ·exact fun v a b H r ak=>RQ m v a b H r (aF (by omega) v a b H r ak)
open Classical in
noncomputable def aR(b1:Nat->Option cz):c5:=fun v args base H=>if h:∃r n,iq b1 n v args base H=some r then some h.choose else none
open Classical in
noncomputable def aN:hE:=fun b k m fr H=>if h:∃r n,gd b k m n fr H=some r then some h.choose else none
variable {b1:Nat->Option cz}
def Un{n:Nat}{v:V}{args:List V}{base:Nat}{H:ad}{r:V × ad}(h:iq b1 n v args base H=some r):aR b1 v args base H=some r:=by
 have af:∃r n,iq b1 n v args base H=some r:=⟨r,n,h⟩;unfold aR;rw[IY af];obtain⟨m,hm⟩:=af.choose_spec;have J:=rK (uF n m) _ _ _ _ _ h;have aa:=rK (pW n m) _ _ _ _ _ hm
 simp_all
def Co{v:V}{args:List V}{base:Nat}{H:ad}{r:V × ad}(h:aR b1 v args base H=some r):∃n,iq b1 n v args base H=some r:=by
 unfold aR at h;split at h
 .grind
 .cases h
def Rm{b:List V->ad->Option cy}{k:List Nat}{m n:Nat}{fr:List V}{H:ad}{r:cy}(h:gd b k m n fr H=some r):aN b k m fr H=some r:=by
 have af:∃r n,gd b k m n fr H=some r:=⟨r,n,h⟩;unfold aN;rw[IY af];obtain⟨j,bz⟩:=af.choose_spec;have J:=JD (fun _ _ _ h=>h) (uF n j) h;have aa:=JD (fun _ _ _ h=>h) (pW n j) bz
 simp_all
def Mk{b:List V->ad->Option cy}{k:List Nat}{m:Nat}{fr:List V}{H:ad}{r:cy}(h:aN b k m fr H=some r):∃n,gd b k m n fr H=some r:=by
 unfold aN at h;split at h
 .grind
 .cases h
def abq{base:Nat}{fr:List V}{H:ad}{op:bY}{r:V × ad}(he:bf (aR b1) base fr H op=some r):∃n,bf (iq b1 n) base fr H op=some r:=by
 cases op
 case call f xs=>exact Co he
 case mK f xs=>exact Co he
 case sq f xs=>
  simp only[bf]at he;split at he
  .rename_i us lB;split at he
   .rename_i v H' ab;obtain⟨n,aJ⟩:=Co ab;refine⟨n,?_⟩;simp only[bf,lB,aJ];exact he
   .cases he
  .cases he
 case xI f xs=>
  simp only[bf]at he;split at he
  .rename_i ay;split at he
   .rename_i v H' ab;obtain⟨n,aJ⟩:=Co ab;refine⟨n,?_⟩;simp only[bf,bE ay,aJ];exact he
   .cases he
  .cases he
 all_goals exact⟨0,he⟩
def acV{base:Nat}:∀(l:List bx) {fr:List V} {H:ad} {r:List V × ad},cI (aR b1) base l fr H=some r->∃n,cI (iq b1 n) base l fr H=some r:=by
 intro l
 induction l with
 |nil=>intro fr H r he;exact⟨0,he⟩
 |cons o l aF=>
   intro fr H r he;simp only[cI]at he;split at he
   .cases he
   .rename_i hw;obtain⟨n,aJ⟩:=aF he
    exact⟨n,by simp only[cI,hw,aJ]⟩
   .rename_i hw;split at he
    .rename_i v H1 J;obtain⟨cC,iJ⟩:=abq J;obtain⟨b5,lL⟩:=aF he;refine⟨max cC b5,?_⟩;simp only[cI,hw,Pe (rK (uF cC b5)) iJ];exact Lq (rK (pW cC b5)) l lL
    .cases he
def aJG{an9:List V->ad->Option cy}{b:Nat->List V->ad->Option cy}(Zn:∀n m,n<=m->∀fr H r,b n fr H=some r->b m fr H=some r)(ah:∀fr H r,an9 fr H=some r->∃n,b n fr H=some r){kill:List Nat}{m:Nat}:
 ∀(k:Nat) {fr:List V} {H:ad} {r:cy},gd an9 kill m k fr H=some r->∃n,gd (b n) kill m k fr H=some r:=by
 intro k
 induction k with
 |zero=>intro fr H r h;simp[gd]at h
 |succ k aF=>
   intro fr H r h;simp only[gd]at h;split at h
   .rename_i cw H1 J;obtain⟨cC,iJ⟩:=ah _ _ _ J;obtain⟨b5,lL⟩:=aF h;refine⟨max cC b5,?_⟩;simp only[gd,Zn _ _ (uF cC b5) _ _ _ iJ];exact JD (Zn _ _ (pW cC b5)) (cq _) lL
   .rename_i e cw H1 eS J;obtain⟨cC,iJ⟩:=ah _ _ _ J;refine⟨cC,?_⟩;simp only[gd,iJ];omega
   .cases h
noncomputable def qC(b1:Nat->Option cz)(base:Nat)(ac:bZ)(n:Nat):List V->ad->Option cy:=aL (iq b1 n) (pJ n) base ac
def nw{base:Nat}{ac:bZ}{n m:Nat}(h:n<=m){fr:List V}{H:ad}{r:cy}(he:qC b1 base ac n fr H=some r):qC b1 base ac m fr H=some r:=Bu (rK h) h ac he
def uf{base:Nat}:∀(ac:bZ) {fr:List V} {H:ad} {r:cy},aL (aR b1) aN base ac fr H=some r->∃n,qC b1 base ac n fr H=some r:=by
 intro ac
 induction ac with
 |skip=>intro fr H r he;exact⟨0,he⟩
 |bh ops kill j7=>intro fr H r he;exact⟨0,he⟩
 |region ops ct kill=>
   intro fr H r he;simp only[aL]at he;split at he
   .rename_i cw H1 J;obtain⟨n,aJ⟩:=acV ops J;have aq:tN (iq b1 n) (aR b1):=fun _ _ _ _ _ h=>Un h;refine⟨n,?_⟩;simp only[qC,aL,aJ];simp only[auS aq aJ]at he;exact he
   .cases he
 |seq a b iU kb=>
   intro fr H r he;simp only[aL]at he;split at he
   .rename_i cw H1 J;obtain⟨cC,iJ⟩:=iU J;obtain⟨b5,lL⟩:=kb he;refine⟨max cC b5,?_⟩;have k1:=nw (uF cC b5) iJ;have k2:=nw (pW cC b5) lL;simp only[qC,aL]at k1 |-;rw[k1];exact k2
   .rename_i eS;obtain⟨n,aJ⟩:=iU he;refine⟨n,?_⟩;simp only[qC,aL]at aJ |-
    simp_all
 |cond o a b iU kb=>
   intro fr H r he;simp only[aL]at he;split at he
   .rename_i ab;obtain⟨n,aJ⟩:=iU he
    exact⟨n,by simp only[qC,aL,ab];exact aJ⟩
   .rename_i ab;obtain⟨n,aJ⟩:=kb he
    exact⟨n,by simp only[qC,aL,ab];exact aJ⟩
   .cases he
 |block id a aF=>
   intro fr H r he;simp only[aL]at he;split at he
   .rename_i gw cw H1 J;obtain⟨n,aJ⟩:=aF J
    exact⟨n,by simp only[qC,aL]at aJ |-;rw[aJ];exact he⟩
   .rename_i eS;obtain⟨n,aJ⟩:=aF he;refine⟨n,?_⟩;simp only[qC,aL]at aJ |-
    simp_all
 |loop kill a aF=>
   intro fr H r he;simp only[aL]at he;obtain⟨k,an⟩:=Mk he;obtain⟨n,aJ⟩:=aJG (b:=qC b1 base a) (fun n m h fr H r=>nw h) (fun fr H r=>aF) k an;refine⟨max n k,?_⟩;simp only[qC,aL];exact JD (fun fr H r h=>nw (uF n k) h) (pW n k) aJ
 |rangeFunc f ps a b _ _=>
   intro fr H r he;simp only[aL]at he;split at he
   .rename_i k x y al;split at he
    .rename_i v bH ab;obtain⟨n,aJ⟩:=Co ab;refine⟨n,?_⟩;simp only[qC,aL,al,aJ];exact he
    .cases he
   .cases he
 |exit id=>intro fr H r he;exact⟨0,he⟩
 |ret=>intro fr H r he;exact⟨0,he⟩
def aU8{v:V}{args:List V}{base:Nat}{H:ad}{r:V × ad}(he:iT b1 (aR b1) aN v args base H=some r):∃n,iT b1 (iq b1 n) (pJ n) v args base H=some r:=by
 cases v<;>simp only[iT]at he |-<;>first|(cases he;done)|skip
 case fn f x y=>
  split at he
  .rename_i aMQ ug;split at he
   .rename_i cw H1 J;obtain⟨n,aJ⟩:=uf _ J;refine⟨n,?_⟩;simp only[qC]at aJ
    simp_all
   .rename_i cw H1 J;obtain⟨n,aJ⟩:=uf _ J;refine⟨n,?_⟩;simp only[qC]at aJ
    simp_all
   .cases he
  .simp_all
  .cases he
 case ff id=>
  split at he
  case isFalse=>cases he
  rename_i ah;split at he
  case h_2=>cases he
  rename_i bm;split at he
  case h_2=>cases he
  rename_i kv;split at he
  case h_2=>cases he
  rename_i J;split at he
  case h_2=>cases he
  rename_i k0;split at he
  case h_2=>cases he
  rename_i aa;obtain⟨cC,iJ⟩:=uf _ J;obtain⟨b5,lL⟩:=uf _ aa;have k1:=nw (uF cC b5) iJ;have k2:=nw (pW cC b5) lL;refine⟨max cC b5,?_⟩;simp only[qC]at k1 k2
  simp_all
def oD{v:V}{args:List V}{base:Nat}{H:ad}{r:V × ad}(he:iT b1 (aR b1) aN v args base H=some r):aR b1 v args base H=some r:=by
 obtain⟨n,aJ⟩:=aU8 he;exact Un (n:=n+1) aJ
def aM7{b:List V->ad->Option cy}{k:List Nat}{m:Nat}{fr aW:List V}{H H':ad}{r:cy}(J:b fr H=some (.bR,aW,H'))(aa:aN b k m (ul k aW) (trim m (ul k aW) H')=some r):aN b k m fr H=some r:=by
 obtain⟨n,aJ⟩:=Mk aa;refine Rm (n:=n+1) ?_;simp only[gd,J];exact aJ
def YX{b:List V->ad->Option cy}{k:List Nat}{m:Nat}{fr aW:List V}{H H':ad}{e:nE}(eS:e≠.bR)(J:b fr H=some (e,aW,H')):aN b k m fr H=some (e,ul k aW,trim m (ul k aW) H'):=by
 refine Rm (n:=1) ?_;simp only[gd,J]
open Go.RowKit Go.ChangeShapes Go.WideShapes Go.ChangeAt
section
variable {P:Program} {pure':fA} {b1:Nat->Option cz} {H:Type} {enc:TypeId × Value->H}
def aPX{w w':World}{may:MemPlace->Prop}(an:∀B,B<w.heap.size->w'.heap[B]?=w.heap[B]?)(aY:DR (fun _ _=>none) w w'):w.keptBut w' may:=by
 refine⟨aY.os,aY.output,fun i hi=>?_⟩
 grind
def aFb{f:Func}{s:ChangeSpec}{again:Bool}{W wN:World}{args:Array Value}{v:Value}{de gs:List (DataW H)}{before:List MemPlace}(ta:DataW.Whole enc P f.params.toList s.vars false W args.toList de gs before){pa pv:List MemPlace}(j2:∀(b:Nat) (sp:Nat->Bool) (aQ:Bool),DataW.TrodAll enc P wN b sp aQ f.resultTypes.toList (v.resultList f.resultTypes.size) (s.fn H (de++gs)).results [])(nb:∀sp:Nat->Bool,(∀p∈before,sp p.block=true)->DataW.TrodAll enc P wN 0 sp true f.params.toList args.toList (s.fn H (de++gs)).args pa)(KL:∀sp:Nat->Bool,(∀p∈before,sp p.block=true)->DataW.TrodVars enc P wN sp s.vars (s.fn H (de++gs)).vars pv)(zc:before=pa++pv)(an:W.keptBut wN (·∈before))(acS:∀b off,MemPlace.cell b off∈before->wN.frozen? ⟨b,off,none⟩=W.frozen? ⟨b,off,none⟩)(fU:∀(j:Nat) (t:TypeId) (r:Value),f.resultTypes[j]?=some t->(v.resultList f.resultTypes.size)[j]?=some r->Value.okWide P wN .any 0 t r):
 s.post enc P f false true false again W args v wN:=by
 have hR:∀p∈before,(fun b=>decide (b<W.heap.size)) p.block=true:=fun p ay=>by simpa using ta.lt p ay
 refine⟨de,gs,before,[],pa,pv,ta,j2 _ _ _,nb _ hR,KL _ hR,World.keptBut_mono (fun p ay=>⟨ay,?_⟩) an,fun _=>?_⟩
 .simp_all
 .obtain⟨_,_,_,_,_,bK,_⟩:=ta
  refine⟨fU,_,_,([]++pa)++pv,⟨[]++pa,pv,trodAll_append (nb _ fun _ _=>rfl) (j2 _ _ _),KL _ fun _ _=>rfl,rfl,fun b off ay=>?_,fun h=>by cases h⟩,fun p ay _=>by simp_all⟩
  have ah:MemPlace.cell b off∈before:=by rw[zc];simpa using ay
  rw[acS b off ah];exact bK b off ah
def ag1{w w':World}{base:Nat}{sp:Nat->Bool}{held:Bool}:∀{ao:List TypeId} {vs:List Value} {de:List (DataW H)} {ps:List MemPlace},DataW.TrodAll enc P w base sp held ao vs de ps->(∀p∈ps,w.sameAt w' p)->DataW.TrodAll enc P w' base sp held ao vs de ps
 | [],[],[],_,h,_=>h
 |_::_,_::_,_::_,_,⟨p,q,⟨n,J⟩,aa,e⟩,ai=>⟨p,q,⟨n,DataW.trod_carry n _ _ _ J (fun x af=>ai x (by simp_all))⟩,ag1 aa (fun x af=>ai x (by simp_all)),e⟩
def ayo{w:World}{base:Nat}{sp:Nat->Bool}{held:Bool}:∀{ao:List TypeId} {vs:List Value} {de:List (DataW H)} {ps:List MemPlace},DataW.TrodAll enc P w base sp held ao vs de ps->de.length=ao.length
 | [],[],[],_,_=>rfl
 |_::_,_::_,_::_,_,⟨_,_,_,aa,_⟩=>by simp[ayo aa]
def aWY{w w':World}{p:MemPlace}(h:w'.heap[p.block]?=w.heap[p.block]?):w.sameAt w' p:=by
 cases p with
 |cell b off=>
   show w'.cell? ⟨b,off,none⟩=w.cell? ⟨b,off,none⟩;have h:w'.heap[b]?=w.heap[b]?:=h;simp only[World.cell?,h]
 |map b=>exact h
def aPy(fh:P.follows .mixedOrders=true)(jg:∀k c,b1 k=some c->iP P pure' k c)(aq:laidOutB P=true)(hm:mapsRowed P=true)(bK:((List.range P.types.size).all fun t=>match P.underlying t with|some (.slice e)=>decide (0<P.cellsOf e)|_=>true)=true){k:Nat}{fn:Func}{s:ChangeSpec}{tb:TypeId}(KL:s.vars=[])(j2:fn.resultTypes=#[tb])(auF:P.underlying tb=some .bool)(aE6:∀t∈fn.params.toList,t<P.types.size)(aKj:∀de:List (DataW H),de.length=fn.params.toList.length->s.fn H de={ results:=[.lit (.bool true)],args:=de }){W:World}{args:Array Value}{de gs:List (DataW H)}{before:List MemPlace}(ta:DataW.Whole enc P fn.params.toList s.vars false W args.toList de gs before)(av:∃vs,b6 (fun _ _=>none) (fun _=>False) W vs args.toList/\∃n H',iq b1 n (.fn k [] []) vs 0 []=some (ar true,H'))(Dn:∀(B:Nat) (o:Array Value × TypeId × Nat × Nat),pure'.rI B=some o->W.heap[B]?=some (.cells o.1 o.2.1 o.2.2)):
 Calls P k args W fun e wN=>∃v,e=.returned v/\s.post enc P fn false true false false W args v wN:=by
 obtain⟨vs,db,n,H',ab⟩:=av;refine(azU fh jg ab db Dn).mono ?_;rintro e wN ⟨c,cf,b9,rfl,ak,an,j9⟩;have fm:c=.bool true:=ei ak;subst fm;have b8:=ta.lt;have azg:=ta;obtain⟨p,q,J,aa,aE,aI,bl⟩:=ta;rw[KL]at aa
 obtain⟨rfl,rfl⟩:gs=[]/\q=[]:=by
  cases gs with
  |nil=>exact⟨rfl,aa⟩
  |cons g gs=>exact aa.elim
 have Tu:before=p:=by simpa using aE
 have ph:=ayo J
 have tF:s.fn H (de++[])={ results:=[.lit (.bool true)],args:=de }:=by rw[nn];exact aKj de ph
 refine⟨_,rfl,aFb (pa:=before) (pv:=[]) azg (fun b sp aQ=>?_) (fun sp oG=>?_) (fun sp _=>?_) (by simp) (aPX an j9) (fun b off ay=>?_) (ok_one j2 rfl (okWide_bool_mk auF true))⟩
 .rw[tF,j2]
  exact⟨[],[],⟨1,by simp[DataW.trod,Value.cells,auF]⟩,rfl,rfl⟩
 .rw[tF]
  have cO:=DataW.TrodAll.respare (kids_rows aq hm) (fun t e aY he=>slices_full_of P bK t e aY he) aE6 J (spare':=sp) (fun x af=>oG x (by rw[Tu];exact af))
  rw[Tu]
  exact ag1 cO fun x af=>aWY (an _ (b8 x (by rw[Tu];exact af)))
 .rw[tF,KL];rfl
 .simp only[World.frozen?,an b (b8 _ ay)]
end
theorem ayy(p x y:Bool):Ap (some (.s (.bool p))) (some (.s (.bool x))) (some (.s (.bool y)))=some (.s (.bool (bif p then x else y))):=by cases p<;>rfl
theorem aWc(x y:Option V):Ap (some (.s (.bool true))) x y=x:=rfl
theorem aIO(x y:Option V):Ap (some (.s (.bool false))) x y=y:=rfl
def St{fr:List V}{s:Nat}{v:V}(h:s<fr.length):(fr.set s v).getD s .bu=v:=by simp[h]
def Qj{fr:List V}{s t:Nat}{v:V}(h:s≠t):(fr.set s v).getD t .bu=fr.getD t .bu:=by simp[h]
theorem B0(fr:List V):ul [] fr=fr:=rfl
def vF{m:Nat}{fr:List V}{H:ad}(h:H.length=m):trim m fr H=H:=by
 unfold trim
 grind
inductive hS where
 |cD (g:List (Nat × Bool × E)) (e:E)
 |sub (src:Nat) (path wL:List Nat)
 |aS (i:Nat)
 |cb (v:V)
 deriving Inhabited
def ow:List Nat->List Nat->E->List (Nat × Bool × E) × E
 | [],_,e=>([],e)
 |i::p,lf,.op _ xs=>ow p lf (xs.getD i (.c .bu))
 |0::p,lf,.pick c _ _=>ow p lf c
 |1::p,s::lf,.pick c a _=>((s,true,c)::(ow p lf a).1,(ow p lf a).2)
 |2::p,s::lf,.pick c _ b=>((s,false,c)::(ow p lf b).1,(ow p lf b).2)
 |_,_,_=>([],.c .bu)
def qw:List hS->List (List (Nat × Bool × E) × E)
 | []=>[]
 |.cD g e::r=>(g,e)::qw r
 |_::r=>qw r
def yI:List hS->List E
 | []=>[]
 |.cD [] e::r=>e::yI r
 |_::r=>yI r
def hS.get(S:List E):hS->List (Nat × Bool × E) × E
 |.cD g e=>(g,e)
 |.sub s p lf=>ow p lf (S.getD s (.c .bu))
 |.aS i=>([],.t i)
 |.cb v=>([],.c v)
def Gj(items:List hS)(os:List (Nat × E)):List (List (Nat × Bool × E) × E):=items.map (hS.get (os.map (·.2)++yI items))
def aJL{fr:List V}{H:ad}:∀{xs:List E} {i:Nat},(oT fr H xs).isSome=true->(ch fr H (xs.getD i (.c .bu))).isSome=true:=by
 intro xs
 induction xs with
 |nil=>intro i _;simp[ch]
 |cons x xs aF=>
   intro i h;simp only[oT]at h;cases af:ch fr H x with
   |none=>simp[af]at h
   |some v=>
     cases ai:oT fr H xs with
     |none=>simp[af,ai]at h
     |some vs=>
       cases i with
       |zero=>simp[af]
       |succ i=>simp_all
theorem Uh{fr:List V}{H:ad}:∀(p lf:List Nat) (e:E),(ch fr H e).isSome=true->lb fr H (ow p lf e).1 (ow p lf e).2=true:=by
 intro p
 induction p with
 |nil=>intro lf e h;simp only[ow,lb];exact h
 |cons i p aF=>
   intro lf e h;cases e with
   |op o xs=>
     simp only[ow];refine aF _ _ (aJL ?_);simp only[ch]at h
     grind
   |pick c a b=>
     simp only[ch]at h;cases ab:ch fr H c with
     |none=>simp[ab,Ap]at h
     |some v=>
       rw[ab]at h
       match i,lf with
       |0,lf=>simp only[ow];simp_all
       |1,[]=>simp only[ow,lb,ch];rfl
       |2,[]=>simp only[ow,lb,ch];rfl
       |1,s::lf=>
         simp only[ow,lb,ab];unfold Ap at h;split at h
         .rename_i e;cases e;simp only[yw,eW];exact aF _ _ h
         .rename_i e;cases e;simp[yw]
         .cases h
       |2,s::lf=>
         simp only[ow,lb,ab];unfold Ap at h;split at h
         .rename_i e;cases e;simp[yw]
         .rename_i e;cases e;simp only[yw,eW];exact aF _ _ h
         .cases h
       |i+3,lf=>simp only[ow,lb,ch];rfl
   |t j=>simp only[ow,lb,ch];rfl
   |c v=>simp only[ow,lb,ch];rfl
def aOA{fr:List V}{H:ad}:∀{os:List (Nat × E)} {f g:List V},rB fr H os f=some g->∀p∈os,(ch fr H p.2).isSome=true:=by
 intro os
 induction os with
 |nil=>simp_all
 |cons q os aF=>
   intro f g h p ay;simp only[rB]at h
   grind
def aLi:∀{items:List hS} {g:List (Nat × Bool × E)} {e:E},hS.cD g e∈items->(g,e)∈qw items:=by
 intro items
 induction items with
 |nil=>grind
 |cons x r aF=>
   intro g e h
   rcases nj.1 h with aa|aa
   .subst aa;simp[qw]
   .have aI:=aF aa;clear h
    cases x<;>simp only[qw]<;>first|exact d9 _ aI|exact aI
def aFx:∀{items:List hS} {g:List (Nat × Bool × E)} {e:E},(g,e)∈qw items->hS.cD g e∈items:=by
 intro items
 induction items with
 |nil=>intro g e h;cases h
 |cons x r aF=>
   intro g e h;cases x with
   |cD g' bN=>
     simp only[qw]at h
     grind
   |_=>exact d9 _ (aF h)
def aLv:∀{items:List hS} {e:E},e∈yI items->([],e)∈qw items:=by
 intro items
 induction items with
 |nil=>intro e h;cases h
 |cons x r aF=>
   intro e h;cases x with
   |cD g bN=>
     cases g with
     |nil=>
       simp only[yI]at h;simp only[qw]
       grind
     |cons a g=>simp only[yI]at h;simp only[qw];simp_all
   |_=>exact aF h
def aRt(m:Nat)(items:List hS)(os:List (Nat × E))(kill:List Nat)(fr:List V)(H:ad):
 jN (some (m,Gj items os,os)) kill fr H=jN (some (m,qw items,os)) kill fr H:=by
 simp only[jN];by_cases hm:m<=fr.length
 .rw[bE hm,bE hm];by_cases an:(qw items).all (fun r=>lb fr H r.1 r.2)=true
  .rw[bE an];cases ai:rB fr H os (ul kill fr)with
   |none=>split<;>rfl
   |some g=>
     rw[bE];rw[fp];intro r ak;unfold Gj at ak;rw[wJ]at ak;obtain⟨x,af,rfl⟩:=ak;cases x with
     |cD aXD e=>
       rw[fp]at an;exact an _ (aLi af)
     |aS i=>rfl
     |cb v=>rfl
     |sub s p lf=>
       simp only[hS.get];by_cases aq:s<(os.map (·.2)++yI items).length
       .have aQ:(os.map (·.2)++yI items).getD s (.c .bu)=(os.map (·.2)++yI items)[s]:=by simp only[List.getD,eP aq];rfl
        rw[aQ]
        rcases pu.1 (rU aq)with J|J
        .rw[wJ]at J;obtain⟨q,bJ,e⟩:=J;rw[<- e];exact Uh p lf _ (aOA ai q bJ)
        .rw[fp]at an;have cO:=an _ (aLv J)
         exact Uh p lf _ (by simpa[lb]using cO)
       .have aQ:(os.map (·.2)++yI items).getD s (.c .bu)=.c .bu:=by rw[List.getD,FH (Nat.le_of_not_lt aq)];rfl
        rw[aQ];exact Uh (fr:=fr) (H:=H) p lf _ rfl
  .rw[bV an,bV];intro h;apply an;rw[fp]at h |-;intro r ak;obtain⟨g,e⟩:=r;exact h _ (wJ.2 ⟨_,aFx ak,rfl⟩)
 grind
def aAQ{ops:List bx}{kill j7:List Nat}{m:Nat}{items:List hS}{os:List (Nat × E)}(h:nh ops kill j7=some (m,Gj items os,os))(fr:List V)(H:ad):
 jN (nh ops kill j7) kill fr H=jN (some (m,qw items,os)) kill fr H:=by rw[h,aRt]
abbrev Env:=List (Nat × V)
def lF:Env->Nat->V
 | [],_=>.bu
 |(k,x)::e,s=>if s=k then x else lF e s
def zG(s:Nat)(v:V):Env->Env
 | []=>[(s,v)]
 |(k,x)::e=>if s=k then(s,v)::e else if s<k then(s,v)::(k,x)::e else(k,x)::zG s v e
def gN(hc:List Nat):Env->Env
 | []=>[]
 |(k,x)::e=>if hc.contains k then gN hc e else(k,x)::gN hc e
def ax(n:Nat)(dT:Env):List V:=(List.range n).map (lF dT)
def aCB(s t:Nat)(v:V):∀dT:Env,lF (zG s v dT) t=if t=s then v else lF dT t:=by
 intro dT
 induction dT with
 |nil=>rfl
 |cons p e aF=>
   obtain⟨k,x⟩:=p;simp only[zG];split
   .rename_i h;subst h;simp only[lF];split<;>rfl
   .split
    .simp only[lF]
    .rename_i J aa;simp only[lF,aF]
     grind
def aM5(hc:List Nat)(t:Nat):∀dT:Env,lF (gN hc dT) t=if hc.contains t then .bu else lF dT t:=by
 intro dT
 induction dT with
 |nil=>simp[gN,lF]
 |cons p e aF=>
   obtain⟨k,x⟩:=p;simp only[gN];by_cases J:hc.contains k=true
   .rw[bE J,aF];split
    .rfl
    .rename_i aa;simp only[lF]
     grind
   .rw[bV J];simp only[lF,aF]
    grind
def u7(n:Nat)(dT:Env):(ax n dT).length=n:=by simp[ax]
def Dj{n:Nat}{dT:Env}{s:Nat}(h:s<n):(ax n dT).getD s .bu=lF dT s:=by simp[ax,h]
def Uc{n:Nat}{dT:Env}{fr:List V}(aq:fr.length=n)(h:∀s,s<n->fr.getD s .bu=lF dT s):fr=ax n dT:=by
 refine Nt (by rw[aq,u7]) fun i J aa=>?_
 have:=h i (by omega)
 simp only[ax,List.getElem_map,List.getElem_range]
 grind
def Vd(n:Nat)(dT:Env)(s:Nat)(v:V):(ax n dT).set s v=ax n (zG s v dT):=by
 refine Uc (by rw[fP,u7]) fun t aY=>?_
 rw[aCB];split
 .rename_i h;subst h;exact St (by rw[u7];exact aY)
 .rename_i h;rw[Qj (fun e=>h e.symm),Dj aY]
def avk(n:Nat)(dT:Env)(hc:List Nat):ul hc (ax n dT)=ax n (gN hc dT):=by
 refine Uc (by rw[BO,u7]) fun t aY=>?_
 rw[FJ,aM5];by_cases h:t∈hc
 .simp_all
 .rw[bV h,bV (by simpa using h),Dj aY]
def fL(n:Nat):List V->Nat->Env
 | [],k=>(List.range' k (n-k)).map fun s=>(s,bF)
 |v::vs,k=>(k,v)::fL n vs (k+1)
def VT(n:Nat):∀(vs:List V) (k t:Nat),k<=t->t<n->vs.length+k<=n->lF (fL n vs k) t=if t-k<vs.length then vs.getD (t-k) .bu else bF:=by
 intro vs
 induction vs with
 |nil=>
   intro k t J aa _;simp only[fL,eh,Yv,hp]
   have:∀(m j:Nat),j<=t->t<j+m->lF ((List.range' j m).map fun s=>(s,bF)) t=bF:=by
    intro m
    induction m with
    |zero=>omega
    |succ m aF=>
      intro j a b;simp only[List.range'_succ,dW,lF]
      grind
   simp_all
 |cons v vs aF=>
   intro k t J aa aI;simp only[fL,lF,c3]at aI |-;split
   .simp_all
   .rename_i h
    rw[aF (k+1) t (by omega) aa (by omega)]
    obtain⟨d,aQ⟩:∃d,t-k=d+1:=⟨t-k-1,by omega⟩
    have:t-(k+1)=d:=by omega
    simp_all
def start_eq{n:Nat}{vs:List V}(h:vs.length<=n):vs++List.replicate (n-vs.length) bF=ax n (fL n vs 0):=by
 refine Uc (by simp;omega) fun t aY=>?_
 rw[VT n vs 0 t (gY _) aY (by omega)]
 grind
theorem aUL(s:Nat):lF [] s=.bu:=rfl
theorem aMN(k:Nat)(x:V)(e:Env)(s:Nat):lF ((k,x)::e) s=if s=k then x else lF e s:=rfl
theorem aUS(s:Nat)(v:V):zG s v []=[(s,v)]:=rfl
theorem aUR(s:Nat)(v:V)(k:Nat)(x:V)(e:Env):zG s v ((k,x)::e)=if s=k then(s,v)::e else if s<k then(s,v)::(k,x)::e else(k,x)::zG s v e:=rfl
theorem aGa(hc:List Nat):gN hc []=[]:=rfl
theorem aTU(hc:List Nat)(k:Nat)(x:V)(e:Env):gN hc ((k,x)::e)=if hc.contains k then gN hc e else(k,x)::gN hc e:=rfl
def aAg(b:List V->ad->Option cy)(k:List Nat)(m:Nat)(fr:List V)(H:ad):aN b k m fr H=match b fr H with
 |some (.bR,aW,H')=>aN b k m (ul k aW) (trim m (ul k aW) H')
 |some (e,aW,H')=>some (e,ul k aW,trim m (ul k aW) H')
 |none=>none:=by
 cases ah:b fr H with
 |none=>
   simp only[];cases hi:aN b k m fr H with
   |none=>rfl
   |some r=>
     obtain⟨n,aJ⟩:=Mk hi;cases n with
     |zero=>simp[gd]at aJ
     |succ n=>simp[gd,ah]at aJ
 |some r=>
   obtain⟨e,aW,H'⟩:=r;cases e with
   |bR=>
     simp only[];cases hi:aN b k m (ul k aW) (trim m (ul k aW) H')with
     |some r=>exact aM7 ah hi
     |none=>
       cases bz:aN b k m fr H with
       |none=>rfl
       |some r=>
         obtain⟨n,aJ⟩:=Mk bz;cases n with
         |zero=>simp[gd]at aJ
         |succ n=>
           simp only[gd,ah]at aJ;rw[Rm aJ]at hi;cases hi
   |ext id=>exact YX (by simp) ah
   |ret=>exact YX (by simp) ah
noncomputable def nZ(call:c5)(it:hE)(base:Nat)(b:bZ):Option cy->Option cy
 |some (.bR,fr,H)=>aL call it base b fr H
 |r=>r
def Bw(id:Nat):Option cy->Option cy
 |some (.ext gw,fr,H)=>some (if gw=id then .bR else .ext gw,fr,H)
 |r=>r
noncomputable def amb(call:c5)(it:hE)(base:Nat)(a b:bZ)(fr:List V)(H:ad):V->Option cy
 |.s (.bool p)=>bif p then aL call it base a fr H else aL call it base b fr H
 |_=>none
def aoj(H:ad):Option (List V)->Option cy
 |some fr=>some (.bR,fr,H)
 |none=>none
def aYt(kill:List Nat)(ct:List V->Bool):Option (List V × ad)->Option cy
 |some (fr,H)=>bif ct fr then some (.bR,ul kill fr,H)else none
 |none=>none
def oH(ct:List (Nat × Nat))(ops:List bx)(kill:List Nat):Option (List V × ad)->Option cy
 |some (fr,H)=>bif ct.all (FO ops fr)then some (.bR,ul kill fr,H)else none
 |none=>none
section
variable {call:c5} {it:hE} {base:Nat}
theorem aFt(fr:List V)(H:ad):aL call it base .skip fr H=some (.bR,fr,H):=rfl
theorem aUA(id:Nat)(fr:List V)(H:ad):aL call it base (.exit id) fr H=some (.ext id,fr,H):=rfl
theorem aAN(fr:List V)(H:ad):aL call it base .ret fr H=some (.ret,fr,H):=rfl
theorem aQp(a b:bZ)(fr:List V)(H:ad):aL call it base (.seq a b) fr H=nZ call it base b (aL call it base a fr H):=rfl
theorem azM(id:Nat)(c:bZ)(fr:List V)(H:ad):aL call it base (.block id c) fr H=Bw id (aL call it base c fr H):=rfl
theorem aGV(c:b0)(a b:bZ)(fr:List V)(H:ad):aL call it base (.cond c a b) fr H=amb call it base a b fr H (aV fr c):=by
 simp only[aL];cases aV fr c with
 |s v=>cases v with
   |bool p=>cases p<;>rfl
   |_=>rfl
 |_=>rfl
theorem aN4(kill:List Nat)(c:bZ)(fr:List V)(H:ad):aL call it base (.loop kill c) fr H=it (aL call it base c) kill H.length (ul kill fr) H:=rfl
theorem bol(ops:List bx)(kill j7:List Nat)(fr:List V)(H:ad):aL call it base (.bh ops kill j7) fr H=aoj H (jN (nh ops kill j7) kill fr H):=rfl
theorem Oi(ops:List bx)(kill:List Nat)(fr:List V)(H:ad):aL call it base (.region ops [] kill) fr H=oH [] ops kill (cI call base ops fr H):=by
 simp only[aL];cases cI call base ops fr H with
 |none=>rfl
 |some p=>rfl
def ai9{ops:List bx}{ct:List (Nat × Nat)}{kill:List Nat}{fr:List V}{H:ad}{aW:List V}{H':ad}(h:cI call base ops fr H=some (aW,H'))(ab:ct.all (tD call base ops fr H aW)=true):aL call it base (.region ops ct kill) fr H=some (.bR,ul kill aW,H'):=by
 simp only[aL,h,ab,eW]
def aar{ops:List bx}{ct:List (Nat × Nat)}{kill:List Nat}{fr:List V}{H:ad}{aW:List V}{H':ad}(h:cI call base ops fr H=some (aW,H'))(ab:ct.all (FO ops aW)=true):aL call it base (.region ops ct kill) fr H=some (.bR,ul kill aW,H'):=by
 refine ai9 h ?_;rw[fp]at ab |-;intro p ay;simp only[tD,ab p ay,zK]
theorem aiv(b:bZ)(fr:List V)(H:ad):nZ call it base b (some (.bR,fr,H))=aL call it base b fr H:=rfl
theorem aOm(b:bZ)(i:Nat)(fr:List V)(H:ad):nZ call it base b (some (.ext i,fr,H))=some (.ext i,fr,H):=rfl
theorem aPH(b:bZ)(fr:List V)(H:ad):nZ call it base b (some (.ret,fr,H))=some (.ret,fr,H):=rfl
theorem aUV(b:bZ):nZ call it base b none=none:=rfl
theorem aTO(b:bZ)(p:Bool)(x y:Option cy):nZ call it base b (bif p then x else y)=bif p then nZ call it base b x else nZ call it base b y:=by cases p<;>rfl
theorem aJ6(id:Nat)(fr:List V)(H:ad):Bw id (some (.bR,fr,H))=some (.bR,fr,H):=rfl
theorem aEK(id:Nat)(fr:List V)(H:ad):Bw id (some (.ret,fr,H))=some (.ret,fr,H):=rfl
theorem aVT(id i:Nat)(fr:List V)(H:ad):Bw id (some (.ext i,fr,H))=some (if i=id then .bR else .ext i,fr,H):=rfl
theorem aIL(id:Nat):Bw id none=none:=rfl
theorem azP(id:Nat)(p:Bool)(x y:Option cy):Bw id (bif p then x else y)=bif p then Bw id x else Bw id y:=by cases p<;>rfl
theorem aTv(a b:bZ)(fr:List V)(H:ad)(p:Bool):amb call it base a b fr H (.s (.bool p))=bif p then aL call it base a fr H else aL call it base b fr H:=rfl
theorem aIf(H:ad)(fr:List V):aoj H (some fr)=some (.bR,fr,H):=rfl
theorem ath(ops:List bx)(kill:List Nat)(fr:List V)(H:ad):oH [] ops kill (some (fr,H))=some (.bR,ul kill fr,H):=rfl
end
def HV(fr:List V)(H:ad)(os:List (Nat × E))(kill:List Nat)(r:Bool):Option (List V):=bif r then rB fr H os (ul kill fr)else none
def ahg(fr:List V)(H:ad)(os:List (Nat × E))(aW:List V)(s:Nat):Option V->Option (List V)
 |some v=>rB fr H os (aW.set s v)
 |none=>none
def aEn{m:Nat}{R:List (List (Nat × Bool × E) × E)}{os:List (Nat × E)}{kill:List Nat}{fr:List V}{H:ad}(h:m<=fr.length):jN (some (m,R,os)) kill fr H=HV fr H os kill (R.all fun r=>lb fr H r.1 r.2):=by
 simp only[jN,bE h,HV]
 simp_all
theorem aVz(fr:List V)(H:ad)(os:List (Nat × E))(kill:List Nat):HV fr H os kill true=rB fr H os (ul kill fr):=rfl
theorem aT4(fr:List V)(H:ad)(aW:List V):rB fr H [] aW=some aW:=rfl
theorem aSM(fr:List V)(H:ad)(s:Nat)(e:E)(os:List (Nat × E))(aW:List V):rB fr H ((s,e)::os) aW=ahg fr H os aW s (ch fr H e):=rfl
theorem aIT(fr:List V)(H:ad)(os:List (Nat × E))(aW:List V)(s:Nat)(v:V):ahg fr H os aW s (some v)=rB fr H os (aW.set s v):=rfl
theorem aQ1(fr:List V)(H:ad)(e:E):lb fr H [] e=(ch fr H e).isSome:=rfl
theorem aIP(fr:List V)(H:ad)(s:Nat)(b:Bool)(x:E)(G:List (Nat × Bool × E))(e:E):lb fr H ((s,b,x)::G) e=yw (ch fr H x) b (lb fr H G e):=rfl
theorem aRs(p b r:Bool):yw (some (.s (.bool p))) b r=bif p==b then r else true:=by cases p<;>cases b<;>cases r<;>rfl
def pX(f:V->Option V):Option V->Option V
 |some x=>f x
 |none=>none
def ku(f:V->V->Option V):Option V->Option V->Option V
 |some x,some y=>f x y
 |_,_=>none
theorem aHZ(f:V->Option V)(x:V):pX f (some x)=f x:=rfl
theorem aTQ(f:V->V->Option V)(x y:V):ku f (some x) (some y)=f x y:=rfl
theorem aDR(fr:List V)(H:ad)(i:Nat):ch fr H (.t i)=some (fr.getD i .bu):=rfl
theorem XH(fr:List V)(H:ad)(v:V):ch fr H (.c v)=some v:=rfl
theorem aOb(fr:List V)(H:ad)(c a b:E):ch fr H (.pick c a b)=Ap (ch fr H c) (ch fr H a) (ch fr H b):=rfl
def gf(op:BinOp):V->V->Option V
 |.s a,.s b=>(iL op a b).map .s
 |_,_=>none
def Jc(neg:Bool):V->V->Option V
 |.s (.bool a),.s (.bool b)=>some (ar ((a==b) != neg))
 |_,_=>none
def acL(H:ad)(neg:Bool):V->V->Option V
 |.ref i g _,.ref j h _=>if i=j then none else match au H i g,au H j h with
   |some _,some _=>some (ar neg)
   |_,_=>none
 |_,_=>none
def qA(k:tg)(neg:Bool)(x:V):Option V:=(x.isNil k).map fun b=>ar (b != neg)
def zW(neg:Bool)(ls:List mW):V->V->Option V
 |.agg xs,.agg fw=>(kX ls xs fw).map fun b=>ar (b != neg)
 |_,_=>none
def F8(op:UnOp)(x:V):Option V:=match op,x with
 |.not,.s (.bool b)=>some (ar (!b))
 |.neg,.s (.int k n)=>some (.s (.int k (k.wrap (0-n))))
 |.xor,.s (.int k n)=>(iL .xor (.int k (if k.signed then -1 else k.max)) (.int k n)).map .s
 |_,_=>none
def Vb(k:IntKind):V->Option V
 |.s (.int _ n)=>some (.s (.int k (k.wrap n)))
 |_=>none
def Wc:V->Option V
 |.s (.string b)=>some (.s (.string b))
 |_=>none
def Gr:V->Option V
 |.ref id g off=>some (.ref id g off)
 |.eu cs=>some (.eu cs)
 |.fn f a b=>some (.fn f a b)
 |.ff id=>some (.ff id)
 |_=>none
def BA(off:Nat):V->Option V
 |.ref id g o=>some (.ref id g (o+off))
 |.eu cs=>if off<=cs.length then some (.eu (cs.drop off))else none
 |_=>none
def KX(g:Bool)(off n:Nat):V->Option V
 |.agg cs=>if((cs.drop off).take n).length=n then shut g ((cs.drop off).take n)else none
 |_=>none
def kB(sz:Nat):V->V->Option V
 |.aZ id g off len dC,.s (.int _ n)=>if 0<=n/\n<len/\dC=sz then some (.ref id g (off+n.toNat*sz))else none
 |.dc es dC,.s (.int _ n)=>if 0<=n/\dC=sz then(es[n.toNat]?).map .eu else none
 |_,_=>none
def zm:V->V->Option V
 |.s (.string b),.s (.int _ n)=>if 0<=n then(b.data.toList[n.toNat]?).map fun c=>.s (.int .u8 c.toNat)else none
 |_,_=>none
def Kg(i:Nat):V->Option V
 |.bQ vs=>vs[i]?
 |_=>none
def oc(H:ad):tg->V->Option V
 |.p,.s (.string b)=>some (i64 b.size)
 |.s,.s (.slice none 0 0)=>some (i64 0)
 |.m,.s (.map none)=>some (i64 0)
 |.s,.c6=>some (i64 0)
 |.s,.dc es _=>some (i64 es.length)
 |.s,.aZ _ _ _ len _=>some (i64 len)
 |.m,.mp id=>match H[id]? with
   |some (.map es)=>some (i64 es.length)
   |_=>none
 |_,_=>none
def zY(H:ad)(kind:TypeDesc)(zero:V)(ok:Bool)(m k:V):Option V:=(bf (fun _ _ _ _=>none) 0 [m,k] H (.ik kind zero (.t 0) (.t 1) ok)).map (·.1)
def w9(gJ:Bool):V->V->Option V
 |.s (.int k a),.s (.int ia b)=>if k=ia then some (.s (.int k (if gJ then(if a<b then b else a)else(if b<a then b else a))))else none
 |_,_=>none
def fa(H:ad)(g:Bool)(n:Nat)(a:V):Option V:=iu H g n a
def hx(H:ad)(o:bY):Option (List V)->Option V
 |some vs=>(bf (fun _ _ _ _=>none) 0 vs H o).map (·.1)
 |none=>none
def aw5(x:Option V)(xs:Option (List V)):Option (List V):=match x,xs with
 |some v,some vs=>some (v::vs)
 |_,_=>none
theorem aLf(v:V)(vs:List V):aw5 (some v) (some vs)=some (v::vs):=rfl
section
variable (fr:List V) (H:ad) (x y:E)
theorem Lp:oT fr H []=some []:=rfl
theorem B8(xs:List E):oT fr H (x::xs)=aw5 (ch fr H x) (oT fr H xs):=by
 simp only[oT];cases ch fr H x<;>cases oT fr H xs<;>rfl
def Bk(o:bY)(xs:List E):ch fr H (.op o xs)=hx H o (oT fr H xs):=by
 simp only[ch];cases oT fr H xs with
 |none=>rfl
 |some vs=>simp only[hx];grind
def xW{o:bY}{f:V->Option V}(h:∀v,hx H o (some [v])=f v):ch fr H (.op o [x])=pX f (ch fr H x):=by
 rw[Bk,B8,Lp];cases ch fr H x with
 |none=>rfl
 |some v=>exact h v
def Ey{o:bY}{f:V->V->Option V}(h:∀v u,hx H o (some [v,u])=f v u):ch fr H (.op o [x,y])=ku f (ch fr H x) (ch fr H y):=by
 rw[Bk,B8,B8,Lp];cases ch fr H x with
 |none=>rfl
 |some v=>cases ch fr H y with
   |none=>rfl
   |some u=>exact h v u
def D'{o:bY}{f:V->V->Option V}{c:V}(h:∀v,hx H o (some [v,c])=f v c):ch fr H (.op o [x,.c c])=ku f (ch fr H x) (some c):=by
 rw[Bk,B8,B8,Lp,XH];cases ch fr H x with
 |none=>rfl
 |some v=>exact h v
def Ej{o:bY}{f:V->V->Option V}{c:V}(h:∀v,hx H o (some [c,v])=f c v):ch fr H (.op o [.c c,y])=ku f (some c) (ch fr H y):=by
 rw[Bk,B8,B8,Lp,XH];cases ch fr H y with
 |none=>rfl
 |some v=>exact h v
def aRX(op:BinOp):ch fr H (.op (.bin op (.t 0) (.t 1)) [x,y])=ku (gf op) (ch fr H x) (ch fr H y):=Ey _ _ _ _ fun v u=>by
 cases v<;>first|rfl|(cases u<;>first|rfl|(simp only[hx,bf,aV,kK,qt,gf];cases iL op _ _<;>rfl))
def azk(op:BinOp)(c:V):ch fr H (.op (.bin op (.t 0) (.c c)) [x,.c c])=ku (gf op) (ch fr H x) (some c):=D' _ _ _ fun v=>by
 cases v<;>first|rfl|(cases c<;>first|rfl|(simp only[hx,bf,aV,kK,gf];cases iL op _ _<;>rfl))
def aCT(op:BinOp)(c:V):ch fr H (.op (.bin op (.c c) (.t 1)) [.c c,y])=ku (gf op) (some c) (ch fr H y):=Ej _ _ _ fun v=>by
 cases c<;>first|rfl|(cases v<;>first|rfl|(simp only[hx,bf,aV,kK,qt,gf];cases iL op _ _<;>rfl))
def aAU(n:Bool):ch fr H (.op (.u6 n (.t 0) (.t 1)) [x,y])=ku (Jc n) (ch fr H x) (ch fr H y):=Ey _ _ _ _ fun v u=>by
 cases v<;>first|rfl|(rename_i q;cases q<;>first|rfl|(cases u<;>first|rfl|(rename_i p;cases p<;>rfl)))
def aVP(n:Bool)(c:V):ch fr H (.op (.u6 n (.t 0) (.c c)) [x,.c c])=ku (Jc n) (ch fr H x) (some c):=D' _ _ _ fun v=>by
 cases v<;>first|rfl|(rename_i q;cases q<;>first|rfl|(cases c<;>first|rfl|(rename_i p;cases p<;>rfl)))
def ay0(n:Bool)(c:V):ch fr H (.op (.u6 n (.c c) (.t 1)) [.c c,y])=ku (Jc n) (some c) (ch fr H y):=Ej _ _ _ fun v=>by
 cases c<;>first|rfl|(rename_i q;cases q<;>first|rfl|(cases v<;>first|rfl|(rename_i p;cases p<;>rfl)))
def aWz(n:Bool)(ls:List mW):ch fr H (.op (.s8 n ls (.t 0) (.t 1)) [x,y])=ku (zW n ls) (ch fr H x) (ch fr H y):=Ey _ _ _ _ fun v u=>by
 cases v<;>first|rfl|(cases u<;>first|rfl|(simp only[hx,bf,aV,kK,qt,zW];grind))
def aBm(n:Bool)(ls:List mW)(c:V):ch fr H (.op (.s8 n ls (.t 0) (.c c)) [x,.c c])=ku (zW n ls) (ch fr H x) (some c):=D' _ _ _ fun v=>by
 cases v<;>first|rfl|(cases c<;>first|rfl|(simp only[hx,bf,aV,kK,zW];grind))
def aNL(n:Bool)(ls:List mW)(c:V):ch fr H (.op (.s8 n ls (.c c) (.t 1)) [.c c,y])=ku (zW n ls) (some c) (ch fr H y):=Ej _ _ _ fun v=>by
 cases c<;>first|rfl|(cases v<;>first|rfl|(simp only[hx,bf,aV,kK,qt,zW];grind))
def aRl(sz:Nat):ch fr H (.op (.indexAddr sz (.t 0) (.t 1)) [x,y])=ku (kB sz) (ch fr H x) (ch fr H y):=Ey _ _ _ _ fun v u=>by
 cases v<;>first|rfl|(cases u<;>first|rfl|(rename_i q;cases q<;>first|rfl|(simp only[hx,bf,aV,kK,qt,kB];split<;>first|rfl|(split<;>rename_i e<;>simp[e]))))
def aW4(sz:Nat)(c:V):ch fr H (.op (.indexAddr sz (.t 0) (.c c)) [x,.c c])=ku (kB sz) (ch fr H x) (some c):=D' _ _ _ fun v=>by
 cases v<;>first|rfl|(cases c<;>first|rfl|(rename_i q;cases q<;>first|rfl|(simp only[hx,bf,aV,kK,kB];split<;>first|rfl|(split<;>rename_i e<;>simp[e]))))
def aFs(sz:Nat)(c:V):ch fr H (.op (.indexAddr sz (.c c) (.t 1)) [.c c,y])=ku (kB sz) (some c) (ch fr H y):=Ej _ _ _ fun v=>by
 cases c<;>first|rfl|(cases v<;>first|rfl|(rename_i q;cases q<;>first|rfl|(simp only[hx,bf,aV,kK,qt,kB];split<;>first|rfl|(split<;>rename_i e<;>simp[e]))))
def aWu:ch fr H (.op (.pk (.t 0) (.t 1)) [x,y])=ku (zm) (ch fr H x) (ch fr H y):=Ey _ _ _ _ fun v u=>by
 cases v<;>first|rfl|(rename_i q;cases q<;>first|rfl|(cases u<;>first|rfl|(rename_i p;cases p<;>first|rfl|(simp only[hx,bf,aV,kK,qt,zm];grind))))
def aGs(c:V):ch fr H (.op (.pk (.t 0) (.c c)) [x,.c c])=ku (zm) (ch fr H x) (some c):=D' _ _ _ fun v=>by
 cases v<;>first|rfl|(rename_i q;cases q<;>first|rfl|(cases c<;>first|rfl|(rename_i p;cases p<;>first|rfl|(simp only[hx,bf,aV,kK,zm];grind))))
def aS5(c:V):ch fr H (.op (.pk (.c c) (.t 1)) [.c c,y])=ku (zm) (some c) (ch fr H y):=Ej _ _ _ fun v=>by
 cases c<;>first|rfl|(rename_i q;cases q<;>first|rfl|(cases v<;>first|rfl|(rename_i p;cases p<;>first|rfl|(simp only[hx,bf,aV,kK,qt,zm];grind))))
def aEW(gJ:Bool):ch fr H (.op (.sW gJ (.t 0) (.t 1)) [x,y])=ku (w9 gJ) (ch fr H x) (ch fr H y):=Ey _ _ _ _ fun v u=>by
 cases v<;>first|rfl|(rename_i q;cases q<;>first|rfl|(cases u<;>first|rfl|(rename_i p;cases p<;>first|rfl|(simp only[hx,bf,aV,kK,qt,w9];split<;>rfl))))
def aR3(gJ:Bool)(c:V):ch fr H (.op (.sW gJ (.t 0) (.c c)) [x,.c c])=ku (w9 gJ) (ch fr H x) (some c):=D' _ _ _ fun v=>by
 cases v<;>first|rfl|(rename_i q;cases q<;>first|rfl|(cases c<;>first|rfl|(rename_i p;cases p<;>first|rfl|(simp only[hx,bf,aV,kK,w9];split<;>rfl))))
def aFO(gJ:Bool)(c:V):ch fr H (.op (.sW gJ (.c c) (.t 1)) [.c c,y])=ku (w9 gJ) (some c) (ch fr H y):=Ej _ _ _ fun v=>by
 cases c<;>first|rfl|(rename_i q;cases q<;>first|rfl|(cases v<;>first|rfl|(rename_i p;cases p<;>first|rfl|(simp only[hx,bf,aV,kK,qt,w9];split<;>rfl))))
theorem aBk(mI:TypeDesc)(z:V)(ok:Bool):ch fr H (.op (.ik mI z (.t 0) (.t 1) ok) [x,y])=ku (zY H mI z ok) (ch fr H x) (ch fr H y):=Ey _ _ _ _ fun v u=>by
 rfl
theorem aH6(mI:TypeDesc)(z:V)(ok:Bool)(c:V):ch fr H (.op (.ik mI z (.t 0) (.c c) ok) [x,.c c])=ku (zY H mI z ok) (ch fr H x) (some c):=D' _ _ _ fun v=>by
 rfl
theorem aN9(mI:TypeDesc)(z:V)(ok:Bool)(c:V):ch fr H (.op (.ik mI z (.c c) (.t 1) ok) [.c c,y])=ku (zY H mI z ok) (some c) (ch fr H y):=Ej _ _ _ fun v=>by
 rfl
theorem aT7:ch fr H (.op (.nilCheck (.t 0)) [x])=pX (Gr) (ch fr H x):=xW _ _ _ fun v=>by
 cases v<;>rfl
def aS8(k:tg)(n:Bool):ch fr H (.op (.uq k n (.t 0)) [x])=pX (qA k n) (ch fr H x):=xW _ _ _ fun v=>by
 simp only[hx,bf,aV,kK,qA];grind
def aCJ(op:UnOp):ch fr H (.op (.un op (.t 0)) [x])=pX (F8 op) (ch fr H x):=xW _ _ _ fun v=>by
 cases op<;>first|(cases v<;>first|rfl|(rename_i q;cases q<;>first|rfl|(simp only[hx,bf,aV,kK,F8];cases iL _ _ _<;>rfl)))
def aCW(k:IntKind):ch fr H (.op (.conv k (.t 0)) [x])=pX (Vb k) (ch fr H x):=xW _ _ _ fun v=>by
 cases v<;>first|rfl|(rename_i q;cases q<;>rfl)
def aCr:ch fr H (.op (.zo (.t 0)) [x])=pX (Wc) (ch fr H x):=xW _ _ _ fun v=>by
 cases v<;>first|rfl|(rename_i q;cases q<;>rfl)
def aOL(off:Nat):ch fr H (.op (.fieldAddr off (.t 0)) [x])=pX (BA off) (ch fr H x):=xW _ _ _ fun v=>by
 cases v<;>first|rfl|(simp only[hx,bf,aV,kK,BA];split<;>rfl)
def aRP(g:Bool)(off n:Nat):ch fr H (.op (.field g off n (.t 0)) [x])=pX (KX g off n) (ch fr H x):=xW _ _ _ fun v=>by
 cases v<;>first|rfl|(simp only[hx,bf,aV,kK,KX];split<;>first|rfl|(cases shut g _<;>rfl))
def aQY(i:Nat):ch fr H (.op (.extract (.t 0) i) [x])=pX (Kg i) (ch fr H x):=xW _ _ _ fun v=>by
 cases v<;>first|rfl|(simp only[hx,bf,aV,kK,Kg];grind)
def aKc(k:tg):ch fr H (.op (.da k (.t 0)) [x])=pX (oc H k) (ch fr H x):=xW _ _ _ fun v=>by
 cases k<;>cases v<;>first|rfl|(rename_i q;cases q<;>first|rfl|(rename_i a;cases a<;>rfl)|(rename_i a b c;cases a<;>first|rfl|(cases b<;>first|rfl|(cases c<;>rfl))))|(rename_i j;simp only[hx,bf,aV,kK,oc];grind)
theorem aDD(g:Bool)(n:Nat):ch fr H (.op (.load g n (.t 0)) [x])=pX (fa H g n) (ch fr H x):=xW _ _ _ fun v=>by
 simp only[hx,bf,aV,kK,fa];cases iu H g n v<;>rfl
def aAO(z:List V)(p:List (Nat × Nat))(ps:List (Nat × b0))(xs:List E):ch fr H (.op (.build z p ps) xs)=hx H (.build z p ps) (oT fr H xs):=Bk _ _ _ _
def aGt(f:Nat)(a b:List b0)(xs:List E):ch fr H (.op (.ez f a b) xs)=hx H (.ez f a b) (oT fr H xs):=Bk _ _ _ _
def aFc(a:b0)(cN hi:Option b0)(xs:List E):ch fr H (.op (.sk a cN hi) xs)=hx H (.sk a cN hi) (oT fr H xs):=Bk _ _ _ _
def aOc(sz:Nat)(a:b0)(cN hi gJ:Option b0)(xs:List E):ch fr H (.op (.tP sz a cN hi gJ) xs)=hx H (.tP sz a cN hi gJ) (oT fr H xs):=Bk _ _ _ _
end
def aDK{m:Nat}{os:List (Nat × E)}{kill:List Nat}{fr:List V}{H:ad}(h:m<=fr.length):jN (some (m,[],os)) kill fr H=rB fr H os (ul kill fr):=by
 simp only[jN,bE h,qo,eW]
def aDX{m:Nat}{os:List (Nat × E)}{kill:List Nat}{n:Nat}{dT:Env}{H:ad}(h:m<=n):jN (some (m,[],os)) kill (ax n dT) H=rB (ax n dT) H os (ax n (gN kill dT)):=by
 rw[aDK (by rw[u7];exact h),avk]
def aLP{m:Nat}{R:List (List (Nat × Bool × E) × E)}{os:List (Nat × E)}{kill:List Nat}{n:Nat}{dT:Env}{H:ad}(h:m<=n):jN (some (m,R,os)) kill (ax n dT) H=HV (ax n dT) H os kill (R.all fun r=>lb (ax n dT) H r.1 r.2):=by
 rw[aEn (by rw[u7];exact h)]
noncomputable def Ew(b:List V->ad->Option cy)(k:List Nat)(m:Nat):Option cy->Option cy
 |some (.bR,aW,H')=>aN b k m (ul k aW) (trim m (ul k aW) H')
 |some (e,aW,H')=>some (e,ul k aW,trim m (ul k aW) H')
 |none=>none
theorem dt(b:List V->ad->Option cy)(k:List Nat)(m:Nat)(fr:List V)(H:ad):aN b k m fr H=Ew b k m (b fr H):=by
 rw[aAg];cases b fr H with
 |none=>rfl
 |some r=>obtain⟨e,f,h⟩:=r;cases e<;>rfl
section
variable (b:List V->ad->Option cy) (k:List Nat) (m:Nat)
theorem JP(fr:List V)(H:ad):Ew b k m (some (.bR,fr,H))=aN b k m (ul k fr) (trim m (ul k fr) H):=rfl
theorem aoF(i:Nat)(fr:List V)(H:ad):Ew b k m (some (.ext i,fr,H))=some (.ext i,ul k fr,trim m (ul k fr) H):=rfl
theorem avS(fr:List V)(H:ad):Ew b k m (some (.ret,fr,H))=some (.ret,ul k fr,trim m (ul k fr) H):=rfl
theorem aBO(p:Bool)(x y:Option cy):Ew b k m (bif p then x else y)=bif p then Ew b k m x else Ew b k m y:=by cases p<;>rfl
end
theorem aTT(fr:List V)(H:ad):trim H.length fr H=H:=vF rfl
def Et(rs:List l2):Option cy->Option (V × ad)
 |some (.bR,fr,H)=>(ky rs fr H).map fun v=>(v,H)
 |some (.ret,fr,H)=>(ky rs fr H).map fun v=>(v,H)
 |_=>none
theorem aV8(rs:List l2)(fr:List V)(H:ad):Et rs (some (.bR,fr,H))=(ky rs fr H).map fun v=>(v,H):=rfl
theorem aHf(rs:List l2)(fr:List V)(H:ad):Et rs (some (.ret,fr,H))=(ky rs fr H).map fun v=>(v,H):=rfl
theorem aSi(rs:List l2)(p:Bool)(x y:Option cy):Et rs (bif p then x else y)=bif p then Et rs x else Et rs y:=by cases p<;>rfl
theorem aLq(t:l2)(fr:List V)(H:ad):ky [t] fr H=kJ fr H t:=by
 simp only[ky,rA,NT];cases kJ fr H t<;>rfl
theorem aQz(t u:l2)(fr:List V)(H:ad):ky [t,u] fr H=match kJ fr H t,kJ fr H u with|some x,some y=>some (.bQ [x,y])|_,_=>none:=by
 simp only[ky,rA,NT];cases kJ fr H t<;>cases kJ fr H u<;>rfl
theorem aTl(t:Nat)(fr:List V)(H:ad):kJ fr H (.tmp t)=some (fr.getD t .bu):=rfl
theorem aGJ(t:Nat)(g:Bool)(n:Nat)(fr:List V)(H:ad):kJ fr H (.cell t g n)=iu H g n (fr.getD t .bu):=rfl
def gR{b1:Nat->Option cz}{f:Nat}{c:dm}(al:b1 f=some (.code c)){fst args cap:List V}(aq:(fst++args++cap).length<=c.ntmps){base:Nat}{H:ad}{r:V × ad}(h:Et c.results (aL (aR b1) aN base c.body (ax c.ntmps (fL c.ntmps (fst++args++cap) 0)) H)=some r):aR b1 (.fn f fst cap) args base H=some r:=by
 refine oD ?_;simp only[iT,al];rw[start_eq aq];cases he:aL (aR b1) aN base c.body (ax c.ntmps (fL c.ntmps (fst++args++cap) 0)) H with
 |none=>rw[he]at h;cases h
 |some s=>
   rw[he]at h;obtain⟨e,f2,bH⟩:=s;cases e<;>exact h
theorem aVO(n:Nat)(v:V)(vs:List V)(k:Nat):fL n (v::vs) k=(k,v)::fL n vs (k+1):=rfl
def Uo(call:c5)(base:Nat)(o:bx)(os:List bx)(fr:List V)(H:ad):Option Bool->Option (List V × ad)
 |some true=>match bf call base fr H o.op with
   |some (v,H')=>cI call base os (put o.dst v fr) H'
   |none=>none
 |some false=>cI call base os (put o.dst bF fr) H
 |none=>none
def Ff(call:c5)(base:Nat)(d:Option Nat)(os:List bx)(fr:List V):Option (V × ad)->Option (List V × ad)
 |some (v,H')=>cI call base os (put d v fr) H'
 |none=>none
def J2(b:Bool):V->Option Bool
 |.s (.bool x)=>some (x==b)
 |.s (.tuple _)=>some false
 |_=>none
section
variable {call:c5} {base:Nat}
theorem Yj(fr:List V)(H:ad):cI call base [] fr H=some (fr,H):=rfl
theorem Rj(d:Option Nat)(op:bY)(os:List bx)(fr:List V)(H:ad):cI call base (⟨d,op,none⟩::os) fr H=Ff call base d os fr (bf call base fr H op):=by
 simp only[cI,want];cases bf call base fr H op<;>rfl
theorem XO(d:Option Nat)(op:bY)(t:Nat)(b:Bool)(os:List bx)(fr:List V)(H:ad):cI call base (⟨d,op,some (t,b)⟩::os) fr H=Uo call base ⟨d,op,some (t,b)⟩ os fr H (J2 b (fr.getD t .bu)):=by
 have:want ⟨d,op,some (t,b)⟩ fr=J2 b (fr.getD t .bu):=by
  simp only[want];cases fr.getD t .bu with
  |s v=>cases v<;>rfl
  |_=>rfl
 simp only[cI,this];cases J2 b (fr.getD t .bu)with
 |none=>rfl
 |some p=>cases p<;>rfl
theorem Re(d:Option Nat)(op:bY)(g:Option (Nat × Bool))(os:List bx)(fr:List V)(H:ad)(p:Bool):Uo call base ⟨d,op,g⟩ os fr H (some p)=bif p then Ff call base d os fr (bf call base fr H op)else cI call base os (put d bF fr) H:=by
 cases p
 .rfl
 .simp only[Uo];cases bf call base fr H op<;>rfl
theorem Rz(b x:Bool):J2 b (.s (.bool x))=some (x==b):=rfl
theorem Xp(b:Bool):J2 b bF=some false:=rfl
theorem Qq(d:Option Nat)(os:List bx)(fr:List V)(v:V)(H:ad):Ff call base d os fr (some (v,H))=cI call base os (put d v fr) H:=rfl
def Xk(d:Nat)(v:V)(n:Nat)(dT:Env):put (some d) v (ax n dT)=ax n (zG d v dT):=Vd n dT d v
theorem aHH(v:V)(fr:List V):put none v fr=fr:=rfl
theorem aLn(d:Option Nat)(os:List bx)(fr:List V)(p:Bool)(x y:Option (V × ad)):Ff call base d os fr (bif p then x else y)=bif p then Ff call base d os fr x else Ff call base d os fr y:=by cases p<;>rfl
theorem aFq(ct:List (Nat × Nat))(ops:List bx)(kill:List Nat)(p:Bool)(x y:Option (List V × ad)):oH ct ops kill (bif p then x else y)=bif p then oH ct ops kill x else oH ct ops kill y:=by cases p<;>rfl
end
theorem WR(fr:List V)(i:Nat):aV fr (.t i)=fr.getD i .bu:=rfl
theorem U3(fr:List V)(v:V):aV fr (.c v)=v:=rfl
def KN(H:ad)(x y:V):V->Option (V × ad)
 |.s (.bool p)=>bif p then some (x,H)else some (y,H)
 |_=>none
theorem VO(call:c5)(base:Nat)(fr:List V)(H:ad)(c a b:b0):bf call base fr H (.pick c a b)=KN H (aV fr a) (aV fr b) (aV fr c):=by
 simp only[bf];cases aV fr c with
 |s v=>cases v with
   |bool p=>cases p<;>rfl
   |_=>rfl
 |_=>rfl
theorem az1(H:ad)(x y:V)(p:Bool):KN H x y (.s (.bool p))=bif p then some (x,H)else some (y,H):=rfl
theorem aKi(H:ad)(x y:Bool)(p:Bool):KN H (.s (.bool x)) (.s (.bool y)) (.s (.bool p))=some (.s (.bool (bif p then x else y)),H):=by cases p<;>rfl
def kQ(H:ad):Option V->Option (V × ad)
 |some v=>some (v,H)
 |none=>none
theorem aHa(H:ad)(v:V):kQ H (some v)=some (v,H):=rfl
def SA:Option ad->Option (V × ad)
 |some H=>some (bF,H)
 |none=>none
theorem aPe(H:ad):SA (some H)=some (bF,H):=rfl
section
variable (call:c5) (base:Nat) (fr:List V) (H:ad) (x y:b0)
def aGj(op:BinOp):bf call base fr H (.bin op x y)=kQ H (gf op (aV fr x) (aV fr y)):=by
 simp only[bf];generalize aV fr x=v;generalize aV fr y=u
 cases v<;>first|rfl|(cases u<;>first|rfl|(simp only[gf];cases iL op _ _<;>rfl))
def aFW(n:Bool):bf call base fr H (.u6 n x y)=kQ H (Jc n (aV fr x) (aV fr y)):=by
 simp only[bf];generalize aV fr x=v;generalize aV fr y=u
 cases v<;>first|rfl|(rename_i q;cases q<;>first|rfl|(cases u<;>first|rfl|(rename_i p;cases p<;>rfl)))
theorem aFQ(n:Bool):bf call base fr H (.Ip n x y)=kQ H (acL H n (aV fr x) (aV fr y)):=by
 simp only[bf];generalize aV fr x=v;generalize aV fr y=u
 cases v<;>first|rfl|(cases u<;>first|rfl|skip)
 rename_i i g _ j h _;simp only[acL];split
 .rfl
 .cases au H i g with
  |none=>rfl
  |some c=>cases au H j h<;>rfl
def aOh(n:Bool)(ls:List mW):bf call base fr H (.s8 n ls x y)=kQ H (zW n ls (aV fr x) (aV fr y)):=by
 simp only[bf];generalize aV fr x=v;generalize aV fr y=u
 cases v<;>first|rfl|(cases u<;>first|rfl|(simp only[zW];cases kX ls _ _<;>rfl))
def aVf(sz:Nat):bf call base fr H (.indexAddr sz x y)=kQ H (kB sz (aV fr x) (aV fr y)):=by
 simp only[bf];generalize aV fr x=v;generalize aV fr y=u
 cases v<;>first|rfl|(cases u<;>first|rfl|(rename_i q;cases q<;>first|rfl|(simp only[kB];split<;>first|rfl|(split<;>rename_i e<;>simp[e,kQ]))))
def aE2:bf call base fr H (.pk x y)=kQ H (zm (aV fr x) (aV fr y)):=by
 simp only[bf];generalize aV fr x=v;generalize aV fr y=u
 cases v<;>first|rfl|(rename_i q;cases q<;>first|rfl|(cases u<;>first|rfl|(rename_i p;cases p<;>first|rfl|(simp only[zm];split<;>first|rfl|(split<;>rename_i e<;>simp[e,kQ])))))
def ay9(gJ:Bool):bf call base fr H (.sW gJ x y)=kQ H (w9 gJ (aV fr x) (aV fr y)):=by
 simp only[bf];generalize aV fr x=v;generalize aV fr y=u
 cases v<;>first|rfl|(rename_i q;cases q<;>first|rfl|(cases u<;>first|rfl|(rename_i p;cases p<;>first|rfl|(simp only[w9];split<;>rfl))))
theorem aWJ:bf call base fr H (.nilCheck x)=kQ H (Gr (aV fr x)):=by
 simp only[bf];generalize aV fr x=v;cases v<;>rfl
theorem aEY(k:tg)(n:Bool):bf call base fr H (.uq k n x)=kQ H (qA k n (aV fr x)):=by
 simp only[bf];generalize aV fr x=v;simp only[qA];cases V.isNil k v<;>rfl
def T5(op:UnOp):bf call base fr H (.un op x)=kQ H (F8 op (aV fr x)):=by
 simp only[bf];generalize aV fr x=v
 cases op<;>first|(cases v<;>first|rfl|(rename_i q;cases q<;>first|rfl|(simp only[F8];cases iL _ _ _<;>rfl)))
def azB(k:IntKind):bf call base fr H (.conv k x)=kQ H (Vb k (aV fr x)):=by
 simp only[bf];generalize aV fr x=v
 cases v<;>first|rfl|(rename_i q;cases q<;>rfl)
def aHB:bf call base fr H (.zo x)=kQ H (Wc (aV fr x)):=by
 simp only[bf];generalize aV fr x=v
 cases v<;>first|rfl|(rename_i q;cases q<;>rfl)
def aQX(off:Nat):bf call base fr H (.fieldAddr off x)=kQ H (BA off (aV fr x)):=by
 simp only[bf];generalize aV fr x=v
 cases v<;>first|rfl|(simp only[BA];split<;>rfl)
def aSd(g:Bool)(off n:Nat):bf call base fr H (.field g off n x)=kQ H (KX g off n (aV fr x)):=by
 simp only[bf];generalize aV fr x=v
 cases v<;>first|rfl|(simp only[KX];split<;>first|rfl|(cases shut g _<;>rfl))
def aEX(i:Nat):bf call base fr H (.extract x i)=kQ H (Kg i (aV fr x)):=by
 simp only[bf];generalize aV fr x=v
 cases v<;>first|rfl|(simp only[Kg];split<;>rename_i e<;>simp[e,kQ])
def aWX(k:tg):bf call base fr H (.da k x)=kQ H (oc H k (aV fr x)):=by
 cases k<;>(simp only[bf];generalize aV fr x=v;cases v<;>first|rfl|(rename_i q;cases q<;>first|rfl|(rename_i a;cases a<;>rfl)|(rename_i a b c;cases a<;>first|rfl|(cases b<;>first|rfl|(cases c<;>rfl))))|(rename_i j;simp only[oc];generalize H[j]?=o;cases o<;>first|rfl|(rename_i br;cases br<;>rfl)))
theorem aOy(g:Bool)(n:Nat):bf call base fr H (.load g n x)=kQ H (fa H g n (aV fr x)):=by
 simp only[bf];generalize aV fr x=v;simp only[fa];cases iu H g n v<;>rfl
theorem aIW(mI:TypeDesc)(z:V)(ok:Bool):bf call base fr H (.ik mI z x y ok)=kQ H (zY H mI z ok (aV fr x) (aV fr y)):=by
 have h:∀r,bf call base fr H (.ik mI z x y ok)=some r->r.2=H:=fun r h=>by obtain⟨v,H'⟩:=r;exact(BE rfl h).1
 have aa:bf (fun _ _ _ _=>none) 0 [aV fr x,aV fr y] H (.ik mI z (.t 0) (.t 1) ok)=bf call base fr H (.ik mI z x y ok):=rfl;simp only[zY,aa];cases ak:bf call base fr H (.ik mI z x y ok)with
 |none=>rfl
 |some r=>obtain⟨v,H'⟩:=r;have:=h _ ak;simp only at this;subst this;rfl
theorem QW:bf call base fr H (.move x)=some (aV fr x,H):=rfl
theorem aFo(z:List V):bf call base fr H (.alloc z)=some (.ref H.length 0 0,H++[.cells 0 z]):=rfl
theorem aAB:bf call base fr H (.box x)=if(aV fr x).cells.all V.one then some (.ref H.length 0 0,H++[.cells 0 (aV fr x).cells])else none:=rfl
theorem aBn:bf call base fr H .vN=some (.mp H.length,H++[.map []]):=rfl
theorem aPA(n:Nat):bf call base fr H (.store n x y)=SA (A2 H base n (aV fr y) (aV fr x)):=by
 simp only[bf];cases A2 H base n (aV fr y) (aV fr x)<;>rfl
theorem aUg(f:Nat)(a b:List b0):bf call base fr H (.ez f a b)=some (.fn f (a.map (aV fr)) (b.map (aV fr)),H):=rfl
theorem aSv(sz bytes:Nat):bf call base fr H (.y9 sz bytes x y)=h5 H H.length sz bytes (aV fr x) (aV fr y):=rfl
theorem aWZ(sz bytes:Nat):bf call base fr H (.append sz bytes x y)=h5 H base sz bytes (aV fr x) (aV fr y):=rfl
theorem aCE(args:List b0):bf call base fr H (.call x args)=call (aV fr x) (args.map (aV fr)) base H:=rfl
theorem aP2(args:List b0):bf call base fr H (.mK x args)=call (aV fr x) (args.map (aV fr)) H.length H:=rfl
theorem aWb(z:List V)(places:List (Nat × Nat))(parts:List (Nat × b0)):bf call base fr H (.build z places parts)=kQ H ((lC (places[·]?) z (parts.map fun p=>(p.1,aV fr p.2))).map .agg):=by
 simp only[bf];cases lC (places[·]?) z (parts.map fun p=>(p.1,aV fr p.2))<;>rfl
def acT(H:ad)(sz len:Nat):Option (List V)->Option (V × ad)
 |some cs=>some (if len=0 then .c6 else .aZ H.length 0 0 len sz,H++[.cells 0 cs])
 |none=>none
theorem aL5(sz len:Nat)(cs:List V):acT H sz len (some cs)=some (if len=0 then .c6 else .aZ H.length 0 0 len sz,H++[.cells 0 cs]):=rfl
theorem aQb(sz len:Nat)(z:List V)(parts:List (Nat × b0)):bf call base fr H (.gh sz len z parts)=acT H sz len (lC (fun i=>some (i*sz,sz)) z (parts.map fun p=>(p.1,aV fr p.2))):=by
 simp only[bf];cases lC (fun i=>some (i*sz,sz)) z (parts.map fun p=>(p.1,aV fr p.2))<;>rfl
end
section
variable {call:c5} {it:hE} {base:Nat}
def BB(D:List Nat)(f g:List V):Prop:=f.length=g.length/\∀s,s ∉ D->f.getD s .bu=g.getD s .bu
def adv(o:bx)(D:List Nat):Bool:=o.reads.any D.contains
def less(D:List Nat)(d:Option Nat):List Nat:=match d with
 |some d=>D.filter (· != d)
 |none=>D
def Ie:List Nat->List bx->Option (List Nat)
 |D,[]=>some D
 |D,o::os=>if adv o D then none else Ie (less D o.dst) os
def akx{D:List Nat}{f g:List V}(h:BB D f g)(d:Option Nat)(v:V):BB (less D d) (put d v f) (put d v g):=by
 cases d with
 |none=>exact h
 |some d=>
   refine⟨by simp only[put,fP];exact h.1,fun s ai=>?_⟩
   simp only[put];by_cases e:s=d
   .subst e;by_cases aq:s<f.length
    .rw[St aq,St (h.1▸aq)]
    .rw[Nr (by omega),Nr (by have:=h.1;omega)]
     simp[List.getD,aq,h.1▸aq]
   .rw[Qj (fun bN=>e bN.symm),Qj (fun bN=>e bN.symm)];refine h.2 s fun d'=>ai ?_;simp only[less,List.mem_filter,mw,ne_eq];exact⟨d',e⟩
def aTA:∀(ops:List bx) (D jJ:List Nat) (f g:List V) (H:ad),Ie D ops=some jJ->BB D f g->
 (cI call base ops f H=none/\cI call base ops g H=none)\/∃hk g' H',cI call base ops f H=some (hk,H')/\cI call base ops g H=some (g',H')/\BB jJ hk g':=by
 intro ops
 induction ops with
 |nil=>intro D jJ f g H h aO;cases h;exact .inr ⟨f,g,H,rfl,rfl,aO⟩
 |cons o os aF=>
   intro D jJ f g H h aO;simp only[Ie]at h;split at h
   .cases h
   .rename_i ak
    have fz:∀s∈o.reads,f.getD s .bu=g.getD s .bu:=fun s ai=>aO.2 s fun d'=>ak (by
     unfold adv;grind)
    have hw:=KS fz;have ab:bf call base f H o.op=bf call base g H o.op:=M8 _ fun x af=>JO af fz;simp only[cI,hw,ab];cases want o g with
    |none=>simp_all
    |some b=>
      cases b with
      |false=>exact aF _ _ _ _ _ h (akx aO _ _)
      |true=>
        simp only[];cases bf call base g H o.op with
        |none=>simp_all
        |some r=>obtain⟨v,H'⟩:=r;exact aF _ _ _ _ _ h (akx aO _ _)
def aha{D hc:List Nat}{f g:List V}(h:BB D f g)(an:D.all hc.contains=true):ul hc f=ul hc g:=by
 refine Nt (by rw[BO,BO,h.1]) fun i J aa=>?_
 have e:(ul hc f).getD i .bu=(ul hc g).getD i .bu:=by
  rw[FJ,FJ];split
  .rfl
  .rename_i hi;refine h.2 i fun d'=>hi ?_
   simp_all
 simp_all
def eL(D:List Nat):bZ->Bool
 |.seq a _=>eL D a
 |.region ops [] kill=>match Ie D ops with
   |some jJ=>jJ.all kill.contains
   |none=>false
 |.cond c a b=>(c.wL.all fun s=>!D.contains s)&&eL D a&&eL D b
 |.block _ c=>eL D c
 |.loop kill _=>D.all kill.contains
 |_=>false
def Cz{D:List Nat}:∀(c:bZ) {f g:List V} (H:ad),eL D c=true->BB D f g->aL call it base c f H=aL call it base c g H:=by
 intro c
 induction c with
 |seq a b iU _=>intro f g H h aO;simp only[aL,iU H h aO]
 |block id c aF=>intro f g H h aO;simp only[aL,aF H h aO]
 |cond o a b iU kb=>
   intro f g H h aO;simp only[eL,dR]at h
   have:aV f o=aV g o:=by
    cases o with
    |c v=>rfl
    |t s=>exact aO.2 s (by simpa[b0.wL]using h.1.1)
   simp only[aL,this,iU H h.1.2 aO,kb H h.2 aO]
 |loop kill c _=>intro f g H h aO;simp only[aL,aha aO h]
 |region ops ct kill=>
   intro f g H h aO;cases ct with
   |cons _ _=>cases h
   |nil=>
     simp only[eL]at h;split at h
     .rename_i jJ d'
      rcases aTA (call:=call) (base:=base) ops D jJ f g H d' aO with⟨aE,aU⟩|⟨hk,g',H',aE,aU,aO8⟩
      .simp only[aL,aE,aU]
      .simp only[aL,aE,aU,aha aO8 h];rfl
     .cases h
 |_=>intro f g H h;cases h
end
def nA:List V->Nat->Env
 | [],_=>[]
 |v::vs,k=>(k,v)::nA vs (k+1)
theorem aP1(k:Nat):nA [] k=[]:=rfl
theorem aRN(v:V)(vs:List V)(k:Nat):nA (v::vs) k=(k,v)::nA vs (k+1):=rfl
theorem atQ:∀(vs:List V) (k t:Nat),k<=t->t<k+vs.length->lF (nA vs k) t=vs.getD (t-k) .bu:=by
 intro vs
 induction vs with
 |nil=>grind
 |cons v vs aF=>
   intro k t J aa;simp only[nA,lF,c3]at aa |-;split
   .simp_all
   .rw[aF (k+1) t (by omega) (by omega)]
    obtain⟨d,aQ⟩:∃d,t-k=d+1:=⟨t-k-1,by omega⟩
    have:t-(k+1)=d:=by omega
    rw[aQ,this];rfl
def eF{b1:Nat->Option cz}{f:Nat}{c:dm}(al:b1 f=some (.code c)){fst args cap:List V}{k:Nat}(an:(fst++args++cap).length=k)(aq:k<=c.ntmps)(qF:eL (List.range' k (c.ntmps-k)) c.body=true){base:Nat}{H:ad}{r:V × ad}(h:Et c.results (aL (aR b1) aN base c.body (ax c.ntmps (nA (fst++args++cap) 0)) H)=some r):aR b1 (.fn f fst cap) args base H=some r:=by
 refine gR al (by omega) ?_
 rw[Cz c.body H qF (g:=ax c.ntmps (nA (fst++args++cap) 0))]
 .exact h
 .refine⟨by rw[u7,u7],fun s ai=>?_⟩
  by_cases aJ:s<c.ntmps
  .rw[Dj aJ,Dj aJ]
   have hV:s<k:=by
    apply Nat.lt_of_not_le;intro h;apply ai;rw[List.mem_range']
    exact⟨s-k,by omega,by omega⟩
   rw[VT _ _ 0 s (gY _) aJ (by omega),bE (by omega),atQ _ 0 s (gY _) (by omega)]
  .simp[ax,List.getD,aJ]
section
variable (call:c5) (it:hE) (base:Nat)
noncomputable def HP(b:List bx)(kill:List Nat)(H:ad):Option (List V)->Option cy->Option cy
 |some f,_=>aL call it base (.region b [] kill) f H
 |none,o=>o
noncomputable def KC(H:ad):Option (List V)->Option cy->Option cy
 |some f,_=>some (.bR,f,H)
 |none,o=>o
noncomputable def vA(ops:List bx)(kill:List Nat)(f:List V)(H:ad):Option cy:=aL call it base (.region ops [] kill) f H
theorem afI(b:List bx)(kill:List Nat)(H:ad)(f:List V)(o:Option cy):HP call it base b kill H (some f) o=aL call it base (.region b [] kill) f H:=rfl
theorem atI(H:ad)(f:List V)(o:Option cy):KC H (some f) o=some (.bR,f,H):=rfl
noncomputable def Ci(k:List Nat)(b:List bx)(kill:List Nat):Bool:=match Ie k b with
 |some D=>D.all kill.contains
 |none=>false
def Uu:∀(a b:List bx) (f:List V) (H:ad),cI call base (a++b) f H=match cI call base a f H with
 |some (hk,H')=>cI call base b hk H'
 |none=>none:=by
 intro a
 induction a with
 |nil=>intro b f H;rfl
 |cons o os aF=>
   intro b f H;simp only[du,cI];cases want o f with
   |none=>rfl
   |some p=>
     cases p with
     |false=>exact aF _ _ _
     |true=>
       simp only[];cases bf call base f H o.op with
       |none=>rfl
       |some r=>exact aF _ _ _
def aR2(k:List Nat)(f:List V):BB k f (ul k f):=⟨(BO k f).symm,fun s ai=>by rw[FJ,bV ai]⟩
def aqw{k kill:List Nat}{b:List bx}(h:Ci k b kill=true)(f:List V)(H:ad):aL call it base (.region b [] kill) f H=aL call it base (.region b [] kill) (ul k f) H:=by
 refine Cz (D:=k) (.region b [] kill) H ?_ (aR2 k f);unfold Ci at h;simp only[eL];exact h
def xu(c d:List bx){kc kill:List Nat}(h:Ci kc d kill=true)(f:List V)(H:ad):aL call it base (.region (c++d) [] kill) f H=nZ call it base (.region d [] kill) (aL call it base (.region c [] kc) f H):=by
 have aE:aL call it base (.region (c++d) [] kill) f H=match cI call base c f H with
  |some (hk,H')=>aL call it base (.region d [] kill) hk H'
  |none=>none:=by
  simp only[aL,Uu]
  grind
 rw[aE,Oi];cases cI call base c f H with
 |none=>rfl
 |some r=>
   obtain⟨hk,H'⟩:=r;simp only[ath,aiv];exact aqw call it base h hk H'
def awz(a b:List bx){oe pA kill:List Nat}(h:Ci oe b kill=true)(f:List V)(H:ad):aL call it base (.region (a++b) [] kill) f H=HP call it base b kill H (jN (nh a oe pA) oe f H) (vA call it base (a++b) kill f H):=by
 cases aY:jN (nh a oe pA) oe f H with
 |none=>rfl
 |some f2=>
   obtain⟨f1,J,aa⟩:=G5 (call:=call) (base:=base) aY
   have aE:aL call it base (.region (a++b) [] kill) f H=aL call it base (.region b [] kill) f1 H:=by
    simp only[aL,Uu,J]
    simp_all
   rw[aE,afI,<- aa,aqw call it base h]
def aIU(a:List bx){pA kill:List Nat}(f:List V)(H:ad):aL call it base (.region a [] kill) f H=KC H (jN (nh a kill pA) kill f H) (vA call it base a kill f H):=by
 cases aY:jN (nh a kill pA) kill f H with
 |none=>rfl
 |some f2=>
   obtain⟨f1,J,aa⟩:=G5 (call:=call) (base:=base) aY;simp only[atI,aL,J,aa,qo,eW]
def vK(ops:List bx)(kill:List Nat)(f:List V)(H:ad):aL call it base (.region ops [] kill) f H=oH [] ops kill (cI call base ops f H):=Oi ops kill f H
end
def Rd(H:ad)(v:V)(l:List V):Prop:=(∀b,v≠.s (.string b))/\elems H 1 v=some (l.length,l)
def Rd.nil(H:ad):Rd H cm []:=⟨fun _ h=>(by cases h),rfl⟩
def Rd.c6(H:ad):Rd H .c6 []:=⟨fun _ h=>(by cases h),rfl⟩
def Rd.dc(H:ad)(l:List V):Rd H (.dc (l.map fun x=>[x]) 1) l:=by
 refine⟨fun _ h=>by(cases h),?_⟩
 simp only[elems,eW,pY]
 congr 2
 induction l with
 |nil=>rfl
 |cons x l aF=>simp[aF]
def Rd.aZ{H:ad}{id g:Nat}{c:List V}(h:au H id g=some c){off n:Nat}(aJ:off+n<=c.length):Rd H (.aZ id g off n 1) ((c.drop off).take n):=by
 refine⟨fun _ h=>by(cases h),?_⟩
 have:((c.drop off).take n).length=n:=by simp;omega
 simp only[elems,eW,h,AY,this]
def Rd.cases{H:ad}{v:V}{l:List V}(h:Rd H v l):(l=[]/\(v=cm\/v=.c6))\/(∃es,v=.dc es 1/\es.flatten=l/\es.length=l.length)\/∃id g off n c,v=.aZ id g off n 1/\au H id g=some c/\(c.drop off).take n=l/\n=l.length:=by
 obtain⟨J,aa⟩:=h;unfold elems at aa;split at aa
 .simp only[jI,Prod.mk.injEq]at aa;exact .inl ⟨aa.2.symm,.inl rfl⟩
 .grind
 .simp_all
 .grind
 .cases aa
theorem Rd.len{H:ad}{v:V}{l:List V}(h:Rd H v l):oc H .s v=some (.s (.int .i64 l.length)):=by
 rcases h.cases with⟨rfl,rfl|rfl⟩|⟨es,rfl,_,e⟩|⟨id,g,off,n,c,rfl,_,_,e⟩
 .rfl
 .rfl
 .simp only[oc,e];rfl
 .simp only[oc,e];rfl
def mq:V->Prop
 |.dc es _=>∀e∈es,e.length=1
 |_=>True
def aIE{es:List (List V)}(h:∀e∈es,e.length=1):∀{i:Nat} {x:V},es.flatten[i]?=some x->es[i]?=some [x]:=by
 induction es with
 |nil=>simp_all
 |cons e es aF=>
   intro i x af;have he:=h e hJ
   match e,he with
   | [y],_=>
     cases i with
     |zero=>simp at af |-;exact af
     |succ i=>simp at af |-;exact aF (fun e he=>h e (d9 _ he)) af
theorem Rd.at{H:ad}{v:V}{l:List V}(h:Rd H v l)(hw:mq v){i:Nat}{x:V}(af:l[i]?=some x):pX (fa H false 1) (kB 1 v (.s (.int .i64 i)))=some x:=by
 have hi:i<l.length:=(dQ.1 af).1
 have bd:(0:Int)<=(i:Int):=by omega
 rcases h.cases with⟨rfl,_⟩|⟨es,rfl,aE,aU⟩|⟨id,g,off,n,c,rfl,ab,aE,aU⟩
 .simp at af
 .have:es[i]?=some [x]:=aIE hw (by rw[aE];exact af)
  simp only[kB,bd,wG,eW,s7,this,o7,pX,fa,iu];rfl
 .have aJ:((i:Int)<(n:Int)):=by omega
  have wi:c[off+i]?=some x:=by
   have:((c.drop off).take n)[i]?=some x:=by rw[aE];exact af
   rw[mr (by omega),qP]at this
   exact this
  have:((c.drop (off+i)).take 1)=[x]:=by
   have b8:=(dQ.1 wi).1;rw[mF b8];have:=(dQ.1 wi).2;simp[this]
  simp only[kB,bd,aJ,qW,eW,s7,AY,pX,fa,iu,ab,this];rfl
def H9{H G:ad}{id g:Nat}{c:List V}(h:au H id g=some c):au (H++G) id g=some c:=by
 unfold au at h |-
 grind
def Rd.app{H:ad}{v:V}{l:List V}(h:Rd H v l)(G:ad):Rd (H++G) v l:=by
 rcases h.cases with⟨rfl,rfl|rfl⟩|⟨es,rfl,aE,aU⟩|⟨id,g,off,n,c,rfl,ab,aE,aU⟩
 .exact Rd.nil _
 .exact Rd.c6 _
 .exact⟨h.1,h.2⟩
 .refine⟨h.1,?_⟩
  have:((c.drop off).take n).length=n:=by rw[aE,aU]
  simp only[elems,eW,H9 ab,AY,aE]
  grind
def EX{H:ad}{id g:Nat}{c c':List V}(h:au H id g=some c)(g':Nat):au (H.set id (.cells g' c')) id g'=some c':=by
 have:id<H.length:=by
  unfold au at h;split at h
  .grind
  .cases h
 simp[au,this]
def Ig{H:ad}{id j g:Nat}(br:aM)(h:id≠j):au (H.set j br) id g=au H id g:=by
 unfold au
 grind
def aBB(H:ad)(id:Nat)(a b:aM):(H.set id a).set id b=H.set id b:=List.set_set ..
def aSB(k:IntKind)(a b:Int):gf .add (.s (.int k a)) (.s (.int k b))=some (.s (.int k (k.wrap (a+b)))):=by simp[gf,iL]
def aUF(k:IntKind)(a b:Int):gf .sub (.s (.int k a)) (.s (.int k b))=some (.s (.int k (k.wrap (a-b)))):=by simp[gf,iL]
def aAb(k:IntKind)(a b:Int):gf .mul (.s (.int k a)) (.s (.int k b))=some (.s (.int k (k.wrap (a*b)))):=by simp[gf,iL]
def aEJ(k:IntKind)(a b:Int):gf .eql (.s (.int k a)) (.s (.int k b))=some (.s (.bool (a==b))):=by simp[gf,iL]
def azF(k:IntKind)(a b:Int):gf .neq (.s (.int k a)) (.s (.int k b))=some (.s (.bool (a != b))):=by simp[gf,iL]
def aHK(k:IntKind)(a b:Int):gf .lss (.s (.int k a)) (.s (.int k b))=some (.s (.bool (decide (a<b)))):=by simp[gf,iL]
def aN7(k:IntKind)(a b:Int):gf .leq (.s (.int k a)) (.s (.int k b))=some (.s (.bool (decide (a<=b)))):=by simp[gf,iL]
def aIx(k:IntKind)(a b:Int):gf .gtr (.s (.int k a)) (.s (.int k b))=some (.s (.bool (decide (a > b)))):=by simp[gf,iL]
def ayK(k:IntKind)(a b:Int):gf .geq (.s (.int k a)) (.s (.int k b))=some (.s (.bool (decide (a ≥ b)))):=by simp[gf,iL]
def aJ3(k:IntKind)(a b:Int):gf .and (.s (.int k a)) (.s (.int k b))=some (.s (.int k (k.wrap (BitVec.ofInt k.bits a &&& BitVec.ofInt k.bits b).toNat))):=by simp[gf,iL]
def aEO(k:IntKind)(a b:Int):gf .or (.s (.int k a)) (.s (.int k b))=some (.s (.int k (k.wrap (BitVec.ofInt k.bits a ||| BitVec.ofInt k.bits b).toNat))):=by simp[gf,iL]
def aRO(k:IntKind)(a b:Int):gf .xor (.s (.int k a)) (.s (.int k b))=some (.s (.int k (k.wrap (BitVec.ofInt k.bits a ^^^ BitVec.ofInt k.bits b).toNat))):=by simp[gf,iL]
def aPZ(k:IntKind)(a b:Int):gf .andNot (.s (.int k a)) (.s (.int k b))=some (.s (.int k (k.wrap (BitVec.ofInt k.bits a &&& ~~~ (BitVec.ofInt k.bits b)).toNat))):=by simp[gf,iL]
def aKt(k:IntKind)(a b:Int):gf .quo (.s (.int k a)) (.s (.int k b))=if b=0 then none else some (.s (.int k (k.wrap (a.tdiv b)))):=by by_cases h:b=0<;>simp[gf,iL,h]
def aBb(k:IntKind)(a b:Int):gf .rem (.s (.int k a)) (.s (.int k b))=if b=0 then none else some (.s (.int k (a.tmod b))):=by by_cases h:b=0<;>simp[gf,iL,h]
def aQf(k j:IntKind)(a b:Int):gf .shl (.s (.int k a)) (.s (.int j b))=if b<0 then none else some (.s (.int k (k.wrap (a*2^(min b.toNat k.bits))))):=by by_cases h:b<0<;>simp[gf,iL,h]
def aEH(k j:IntKind)(a b:Int):gf .shr (.s (.int k a)) (.s (.int j b))=if b<0 then none else some (.s (.int k (a.fdiv (2^(min b.toNat k.bits))))):=by by_cases h:b<0<;>simp[gf,iL,h]
theorem aHx(a b:ByteArray):gf .eql (.s (.string a)) (.s (.string b))=some (.s (.bool (a.data.toList==b.data.toList))):=rfl
theorem aOa(a b:ByteArray):gf .neq (.s (.string a)) (.s (.string b))=some (.s (.bool (!(a.data.toList==b.data.toList)))):=rfl
theorem aPM(a b:ByteArray):gf .lss (.s (.string a)) (.s (.string b))=some (.s (.bool (Op.bytesLess a.data.toList b.data.toList))):=rfl
def aQt(a b:ByteArray):gf .add (.s (.string a)) (.s (.string b))=if((a.size+b.size:Nat):Int) > IntKind.i64.max then none else some (.s (.string (a++b))):=by by_cases h:((a.size+b.size:Nat):Int) > IntKind.i64.max<;>simp only[gf,iL,h,eW,hp,o7,Bc]
theorem aTo(n a b:Bool):Jc n (.s (.bool a)) (.s (.bool b))=some (.s (.bool ((a==b) != n))):=rfl
theorem aFT(n:Bool):qA .p n (.s (.pointer none))=some (.s (.bool (true != n))):=rfl
theorem aDw(n:Bool)(i g o:Nat):qA .p n (.ref i g o)=some (.s (.bool (false != n))):=rfl
theorem aIN(n:Bool)(cs:List V):qA .p n (.eu cs)=some (.s (.bool (false != n))):=rfl
theorem aUG(n:Bool):qA .s n (.s (.slice none 0 0))=some (.s (.bool (true != n))):=rfl
theorem aQN(n:Bool)(i g o l z:Nat):qA .s n (.aZ i g o l z)=some (.s (.bool (false != n))):=rfl
theorem aG6(n:Bool)(es:List (List V))(z:Nat):qA .s n (.dc es z)=some (.s (.bool (false != n))):=rfl
theorem aTM(n:Bool):qA .s n (.c6)=some (.s (.bool (false != n))):=rfl
theorem aOD(n:Bool):qA .m n (.s (.map none))=some (.s (.bool (true != n))):=rfl
theorem aBv(n:Bool)(i:Nat):qA .m n (.mp i)=some (.s (.bool (false != n))):=rfl
theorem aJx(n:Bool):qA .f n (.s .nilFunc)=some (.s (.bool (true != n))):=rfl
theorem aPj(n:Bool)(i:Nat)(a b:List V):qA .f n (.fn i a b)=some (.s (.bool (false != n))):=rfl
theorem aIY(n:Bool)(i:Nat):qA .f n (.ff i)=some (.s (.bool (false != n))):=rfl
theorem aCD(n:Bool)(ls:List mW)(xs fw:List V):zW n ls (.agg xs) (.agg fw)=(kX ls xs fw).map fun b=>.s (.bool (b != n)):=rfl
theorem aCw(b:Bool):F8 .not (.s (.bool b))=some (.s (.bool (!b))):=rfl
theorem aFm(k:IntKind)(a:Int):F8 .neg (.s (.int k a))=some (.s (.int k (k.wrap (0-a)))):=rfl
theorem aRw(k j:IntKind)(a:Int):Vb k (.s (.int j a))=some (.s (.int k (k.wrap a))):=rfl
theorem aQP(b:ByteArray):Wc (.s (.string b))=some (.s (.string b)):=rfl
theorem aIy(i g o:Nat):Gr (.ref i g o)=some (.ref i g o):=rfl
theorem aTc(cs:List V):Gr (.eu cs)=some (.eu cs):=rfl
theorem aAJ(f:Nat)(a b:List V):Gr (.fn f a b)=some (.fn f a b):=rfl
theorem aRE(i:Nat):Gr (.ff i)=some (.ff i):=rfl
theorem aeQ(off i g o:Nat):BA off (.ref i g o)=some (.ref i g (o+off)):=rfl
theorem arf(off:Nat)(cs:List V):BA off (.eu cs)=if off<=cs.length then some (.eu (cs.drop off))else none:=rfl
theorem aEh(g:Bool)(off n:Nat)(cs:List V):KX g off n (.agg cs)=if((cs.drop off).take n).length=n then shut g ((cs.drop off).take n)else none:=rfl
theorem JJ(sz i g o l z:Nat)(k:IntKind)(n:Int):kB sz (.aZ i g o l z) (.s (.int k n))=if 0<=n/\n<l/\z=sz then some (.ref i g (o+n.toNat*sz))else none:=rfl
theorem aeo(sz z:Nat)(es:List (List V))(k:IntKind)(n:Int):kB sz (.dc es z) (.s (.int k n))=if 0<=n/\z=sz then(es[n.toNat]?).map .eu else none:=rfl
theorem aKX(b:ByteArray)(k:IntKind)(n:Int):zm (.s (.string b)) (.s (.int k n))=if 0<=n then(b.data.toList[n.toNat]?).map fun c=>.s (.int .u8 c.toNat)else none:=rfl
theorem aSb(i:Nat)(vs:List V):Kg i (.bQ vs)=vs[i]?:=rfl
theorem aMz(H:ad)(b:ByteArray):oc H .p (.s (.string b))=some (.s (.int .i64 b.size)):=rfl
theorem aKd(H:ad):oc H .s (.s (.slice none 0 0))=some (.s (.int .i64 0)):=rfl
theorem aQl(H:ad):oc H .s .c6=some (.s (.int .i64 0)):=rfl
theorem aJ4(H:ad)(es:List (List V))(z:Nat):oc H .s (.dc es z)=some (.s (.int .i64 es.length)):=rfl
theorem aHC(H:ad)(i g o l z:Nat):oc H .s (.aZ i g o l z)=some (.s (.int .i64 l)):=rfl
theorem aJB(H:ad):oc H .m (.s (.map none))=some (.s (.int .i64 0)):=rfl
theorem h1(H:ad)(g:Bool)(n i j o:Nat):fa H g n (.ref i j o)=match au H i j with|some c=>(if((c.drop o).take n).length=n then shut g ((c.drop o).take n)else none)|none=>none:=rfl
theorem Vf(H:ad)(g:Bool)(n:Nat)(cs:List V):fa H g n (.eu cs)=if(cs.take n).length=n then shut g (cs.take n)else none:=rfl
def aBM(gJ:Bool)(k:IntKind)(a b:Int):w9 gJ (.s (.int k a)) (.s (.int k b))=some (.s (.int k (if gJ then(if a<b then b else a)else(if b<a then b else a)))):=by simp[w9]
theorem X4(cs:List V):shut true cs=some (.agg cs):=rfl
theorem O7(x:V):shut false [x]=some x:=rfl
def Rd.at'{H:ad}{v:V}{l:List V}(h:Rd H v l)(hw:mq v){i:Nat}{x:V}(af:l[i]?=some x):∃a,kB 1 v (.s (.int .i64 i))=some a/\fa H false 1 a=some x:=by
 have:=h.at hw af;cases aO:kB 1 v (.s (.int .i64 i))with
 |none=>rw[aO]at this;cases this
 |some a=>rw[aO]at this;exact⟨a,rfl,this⟩
def kr(d:Nat):Option V->Option Int
 |none=>some d
 |some v=>DC v
theorem aF6(d:Nat):kr d none=some (d:Int):=rfl
theorem ayV(d:Nat)(k:IntKind)(n:Int):kr d (some (.s (.int k n)))=some n:=rfl
def LO(sz id g off len z:Nat):Option Int->Option Int->Option V
 |some l,some h=>if 0<=l/\l<=h/\h<=len/\z=sz then some (.aZ id g (off+l.toNat*sz) (h-l).toNat sz)else none
 |_,_=>none
def Pq(sz:Nat)(es:List (List V))(z:Nat):Option Int->Option Int->Option V
 |some l,some h=>if 0<=l/\l<=h/\h<=es.length/\z=sz then some (.dc ((es.drop l.toNat).take (h-l).toNat) sz)else none
 |_,_=>none
def Aj(v:V):Option Int->Option Int->Option V
 |some l,some h=>if l=0/\h=0 then some v else none
 |_,_=>none
def va(sz:Nat)(v:V)(cN hi:Option V):Option V:=
 match v with
 |.s (.slice none 0 0)=>Aj cm (kr 0 cN) (kr 0 hi)
 |.c6=>Aj .c6 (kr 0 cN) (kr 0 hi)
 |.dc es z=>Pq sz es z (kr 0 cN) (kr es.length hi)
 |.aZ id g off len z=>LO sz id g off len z (kr 0 cN) (kr len hi)
 |_=>none
theorem aEr(sz:Nat)(cN hi:Option V):va sz cm cN hi=Aj cm (kr 0 cN) (kr 0 hi):=rfl
theorem aBz(sz:Nat)(cN hi:Option V):va sz .c6 cN hi=Aj .c6 (kr 0 cN) (kr 0 hi):=rfl
theorem ayU(sz:Nat)(es:List (List V))(z:Nat)(cN hi:Option V):va sz (.dc es z) cN hi=Pq sz es z (kr 0 cN) (kr es.length hi):=rfl
theorem aNP(sz id g off len z:Nat)(cN hi:Option V):va sz (.aZ id g off len z) cN hi=LO sz id g off len z (kr 0 cN) (kr len hi):=rfl
theorem ayO(sz id g off len z:Nat)(l h:Int):LO sz id g off len z (some l) (some h)=if 0<=l/\l<=h/\h<=len/\z=sz then some (.aZ id g (off+l.toNat*sz) (h-l).toNat sz)else none:=rfl
theorem aJt(sz:Nat)(es:List (List V))(z:Nat)(l h:Int):Pq sz es z (some l) (some h)=if 0<=l/\l<=h/\h<=es.length/\z=sz then some (.dc ((es.drop l.toNat).take (h-l).toNat) sz)else none:=rfl
theorem ayx(v:V)(l h:Int):Aj v (some l) (some h)=if l=0/\h=0 then some v else none:=rfl
theorem aED(fr:List V)(d:Nat)(o:Option b0):hY fr d o=kr d (o.map (aV fr)):=by cases o<;>rfl
def ag2(call:c5)(base:Nat)(fr:List V)(H:ad)(sz:Nat)(x:b0)(cN hi:Option b0):bf call base fr H (.tP sz x cN hi none)=kQ H (va sz (aV fr x) (cN.map (aV fr)) (hi.map (aV fr))):=by
 simp only[bf,aED];generalize aV fr x=v;generalize cN.map (aV fr)=cN;generalize hi.map (aV fr)=hi
 cases v<;>first|rfl|skip
 case s v=>
  cases v<;>first|rfl|skip
  rename_i a n m
  cases a<;>first|rfl|skip
  cases n<;>first|rfl|skip
  cases m<;>first|rfl|skip
  simp only[va];cases kr 0 cN with
  |none=>rfl
  |some l=>cases kr 0 hi with
    |none=>simp only[Aj,kQ]
    |some h=>
      simp only[Aj];by_cases aq:l=0
      .subst aq;by_cases hh:h=0
       .subst hh;rfl
       .simp only[hh,and_false,hp]
        split<;>first|rfl|(rename_i aE aU;cases aU;exact absurd rfl hh)
      .simp only[aq,false_and,hp]
       split<;>first|rfl|(rename_i aE aU;cases aE;exact absurd rfl aq)
 case c6=>
  simp only[va];cases kr 0 cN with
  |none=>rfl
  |some l=>cases kr 0 hi with
    |none=>simp only[Aj,kQ]
    |some h=>
      simp only[Aj];by_cases aq:l=0
      .subst aq;by_cases hh:h=0
       .subst hh;rfl
       .simp only[hh,and_false,hp]
        split<;>first|rfl|(rename_i aE aU;cases aU;exact absurd rfl hh)
      .simp only[aq,false_and,hp]
       split<;>first|rfl|(rename_i aE aU;cases aE;exact absurd rfl aq)
 case dc es z=>
  simp only[va]
  cases kr 0 cN<;>cases kr es.length hi<;>first|rfl|(simp only[Pq];split<;>rfl)
 case aZ id g off len z=>
  simp only[va]
  cases kr 0 cN<;>cases kr len hi<;>first|rfl|(simp only[LO];split<;>rfl)
theorem azA(H:ad)(sz:Nat)(x:b0)(cN hi:Option b0)(vs:List V):hx H (.tP sz x cN hi none) (some vs)=va sz (aV vs x) (cN.map (aV vs)) (hi.map (aV vs)):=by
 simp only[hx,ag2];cases va sz (aV vs x) (cN.map (aV vs)) (hi.map (aV vs))<;>rfl
def axp(H:ad)(base sz:Nat)(zero:List V)(v:V):Option ad:=
 match v with
 |.s (.slice none 0 0)=>some H
 |.c6=>some H
 |.aZ id g off len z=>if len=0 then some H else if base<=id/\z=sz then match au H id g with
    |some c=>if zero.length=sz/\off+len*sz<=c.length/\zero.all V.one then some (H.set id (.cells g (iQ c off (List.replicate len zero).flatten)))else none
    |none=>none
   else none
 |_=>none
theorem aMs(call:c5)(base:Nat)(fr:List V)(H:ad)(sz:Nat)(zero:List V)(x:b0):bf call base fr H (.Jn sz zero x)=SA (axp H base sz zero (aV fr x)):=by
 simp only[bf];generalize aV fr x=v
 cases v<;>first|rfl|skip
 case s v=>
  cases v<;>first|rfl|skip
  rename_i a n m
  cases a<;>first|rfl|skip
  cases n<;>first|rfl|skip
  cases m<;>rfl
 case aZ id g off len z=>
  simp only[axp];split
  .rfl
  .split
   .cases au H id g with
    |none=>rfl
    |some c=>simp only[];split<;>rfl
   .rfl
theorem j0:((0:Nat):Int)=0:=rfl
theorem aMb:Int.toNat 0=0:=rfl
def Ext(cK H:ad):Prop:=∃G,H=cK++G
def Ext.refl(H:ad):Ext H H:=⟨[],by simp⟩
def Ext.trans{A B C:ad}(h:Ext A B)(k:Ext B C):Ext A C:=by
 obtain⟨G,rfl⟩:=h;obtain⟨K,rfl⟩:=k
 exact⟨G++K,by simp⟩
def Ext.app(H G:ad):Ext H (H++G):=⟨G,rfl⟩
def Ext.le{A B:ad}(h:Ext A B):A.length<=B.length:=by obtain⟨G,rfl⟩:=h;simp
def Ext.get{A B:ad}(h:Ext A B){i:Nat}(hi:i<A.length):B[i]?=A[i]?:=by obtain⟨G,rfl⟩:=h;grind
def Ext.FX{A B:ad}(aq:A.length<=B.length)(h:∀i,i<A.length->B[i]?=A[i]?):Ext A B:=by
 refine⟨B.drop A.length,?_⟩;refine yb fun i=>?_
 grind
def Ext.set{A B:ad}(h:Ext A B){id:Nat}(hid:A.length<=id)(br:aM):Ext A (B.set id br):=
 Ext.FX (by rw[fP];exact h.le) fun i hi=>by rw[cG (by omega),h.get hi]
def Ext.take{A B:ad}(h:Ext A B){m:Nat}(hm:A.length<=m):Ext A (B.take m):=
 Ext.FX (by rw[EP];have:=h.le;omega) fun i hi=>by rw[mr (by omega),h.get hi]
def zH(m:Nat)(fr:List V)(H:ad):trim m fr H=H\/(trim m fr H=H.take m/\∀v∈fr,ir m 8 v=true):=by
 unfold trim
 grind
def Ext.trim{A B:ad}(h:Ext A B){m:Nat}(hm:A.length<=m)(fr:List V):Ext A (trim m fr B):=by
 rcases zH m fr B with e|⟨e,_⟩<;>rw[e]
 .exact h
 .exact h.take hm
def Rd.ext{H H':ad}{v:V}{l:List V}(h:Rd H v l)(k:Ext H H'):Rd H' v l:=by obtain⟨G,rfl⟩:=k;exact h.app G
def b7{H H':ad}{id g:Nat}{c:List V}(h:au H id g=some c)(k:Ext H H'):au H' id g=some c:=by obtain⟨G,rfl⟩:=k;exact H9 h
def iC{H:ad}{id g:Nat}{c:List V}(h:au H id g=some c):id<H.length:=by
 unfold au at h
 grind
def cQ(H:ad)(g:Nat)(c:List V):au (H++[.cells g c]) H.length g=some c:=by simp[au]
def arA{n:Nat}{dT:Env}{s:Nat}{v:V}(ai:s<n)(h:lF dT s=v):v∈ax n dT:=by
 unfold ax
 grind
def Acc(cK H:ad)(v:V)(l:List V):Prop:=Ext cK H/\((l=[]/\v=cm)\/∃id g,v=.aZ id g 0 l.length 1/\au H id g=some l/\cK.length<=id)
def Acc.start(H:ad):Acc H H cm []:=⟨Ext.refl H,.inl ⟨rfl,rfl⟩⟩
def Acc.rd{cK H:ad}{v:V}{l:List V}(h:Acc cK H v l):Rd H v l:=by
 rcases h.2 with⟨rfl,rfl⟩|⟨id,g,rfl,ab,_⟩
 .exact Rd.nil H
 .have:=Rd.aZ ab (off:=0) (n:=l.length) (by omega)
  simp_all
def Acc.wide{cK H:ad}{v:V}{l:List V}(h:Acc cK H v l):mq v:=by
 rcases h.2 with⟨_,rfl⟩|⟨id,g,rfl,_,_⟩<;>trivial
def Acc.trim{cK H:ad}{v:V}{l:List V}(h:Acc cK H v l){m:Nat}(hm:cK.length<=m){fr:List V}(av:v∈fr):Acc cK (trim m fr H) v l:=by
 refine⟨h.1.trim hm fr,?_⟩
 rcases h.2 with aa|⟨id,g,rfl,ab,hid⟩
 .exact .inl aa
 .refine .inr ⟨id,g,rfl,?_,hid⟩
  rcases zH m fr H with e|⟨e,hu⟩<;>rw[e]
  .exact ab
  .have:=hu _ av;simp only[ir,l8]at this;unfold au at ab |-
   simp_all
def aoV{H:ad}{x:V}:elems (H++[.cells 0 [x]]) 1 (.aZ H.length 0 0 1 1)=some (1,[x]):=by
 simp[elems,au]
def Acc.append{cK H:ad}{v:V}{l:List V}(h:Acc cK H v l){base bytes:Nat}(ah:base<=cK.length){x:V}(af:x.one=true)(ai:(l.length+1)*bytes<=2^47):
 ∃gx H',h5 (H++[.cells 0 [x]]) base 1 bytes v (.aZ H.length 0 0 1 1)=some (gx,H')/\Acc cK H' gx (l++[x]):=by
 have et:[x].all V.one=true:=by simp[af]
 rcases h.2 with⟨rfl,rfl⟩|⟨id,g,rfl,ab,hid⟩
 .have hV:1*bytes<=2^47:=by simpa using ai
  refine⟨.aZ (H.length+1) 0 0 1 1,H++[.cells 0 [x]]++[.cells 0 [x]],?_,h.1.trans ⟨[.cells 0 [x],.cells 0 [x]],by simp⟩,.inr ⟨H.length+1,0,rfl,?_,?_⟩⟩
  .simp only[h5,aoV,et,eW,cm,F1,hp,hV,c0,c3,eh]
  .have:=cQ (H++[.cells 0 [x]]) 0 [x]
   simpa using this
  .have:=h.1.le;omega
 .have b8:=iC ab;have kN:=H9 ab (G:=[aM.cells 0 [x]])
  have jV:base<=id:=by omega
  refine⟨.aZ id (g+1) 0 (l.length+1) 1,(H++[aM.cells 0 [x]]).set id (.cells (g+1) (l++[x])),?_,?_,.inr ⟨id,g+1,by simp,?_,hid⟩⟩
  .have aa:0+l.length<=l.length:=by omega
   simp only[h5,aoV,et,eW,wG,jV,kN,aa,F1,hp,ai,nR,AY,xD]
  .exact(h.1.trans (Ext.app _ _)).set hid _
  .exact EX kN _
def Vx(g:Nat):aM->Option (List V)
 |.cells g' c=>if g'=g then some c else none
 |_=>none
def aAv(A:ad)(br:aM)(id g:Nat):au (A++[br]) id g=if id=A.length then Vx g br else au A id g:=by
 by_cases h:id=A.length
 .subst h;simp only[au,List.getElem?_concat_length,eW];cases br<;>rfl
 .rw[bV h];by_cases aq:id<A.length
  .simp only[au,bi aq]
  .have J:(A++[br])[id]?=none:=FH (by simp;omega)
   have aa:A[id]?=none:=FH (by omega)
   simp only[au,J,aa]
def aG4(g:Nat)(c:List V):Vx g (.cells g c)=some c:=by simp[Vx]
def iI(A:ad)(br x:aM):(A++[br]).set A.length x=A++[x]:=by simp
def dh(A:ad)(br:aM):(A++[br]).length=A.length+1:=by simp
def aMa(a b:Nat):(a=a+(b+1))=False:=by simp
def aAc(a b:Nat):(a+(b+1)=a)=False:=by simp
theorem Rd.one{H:ad}{v:V}{l:List V}(h:Rd H v l):v.one=true:=by
 rcases h.cases with⟨_,rfl|rfl⟩|⟨es,rfl,_⟩|⟨id,g,off,n,c,rfl,_⟩<;>rfl
theorem aNZ(k:IntKind)(n:Int):V.one (.s (.int k n))=true:=rfl
theorem aCG(b:ByteArray):V.one (.s (.string b))=true:=rfl
theorem aAK(b:Bool):V.one (.s (.bool b))=true:=rfl
theorem aBR:V.one (.s (.slice none 0 0))=true:=rfl
theorem aEq(i g o:Nat):V.one (.ref i g o)=true:=rfl
theorem aPc(i g o l z:Nat):V.one (.aZ i g o l z)=true:=rfl
theorem aAA(es:List (List V))(z:Nat):V.one (.dc es z)=true:=rfl
theorem azW:V.one .c6=true:=rfl
theorem aWw(i:Nat):V.one (.mp i)=true:=rfl
theorem aFB(f:Nat)(a b:List V):V.one (.fn f a b)=true:=rfl
theorem aHl(cs:List V):V.cells (.agg cs)=cs:=rfl
theorem aSs(v:Value):V.cells (.s v)=[.s v]:=rfl
theorem aVo(i g o l z:Nat):V.cells (.aZ i g o l z)=[.aZ i g o l z]:=rfl
theorem aH5(es:List (List V))(z:Nat):V.cells (.dc es z)=[.dc es z]:=rfl
theorem aHu(i g o:Nat):V.cells (.ref i g o)=[.ref i g o]:=rfl
theorem aK5:V.cells .c6=[.c6]:=rfl
theorem aO3(i:Nat):V.cells (.mp i)=[.mp i]:=rfl
def aRY{v:V}(h:v.one=true):v.cells=[v]:=by cases v<;>first|rfl|(simp[V.one]at h;done)
theorem azr(p:Nat->Option (Nat × Nat))(c:List V):lC p c []=some c:=rfl
def aEa(A:ad)(br x:aM)(id:Nat):(A++[br]).set id x=if id=A.length then A++[x]else A.set id x++[br]:=by
 by_cases h:id=A.length
 .subst h;simp
 .rw[bV h];by_cases aq:id<A.length
  .simp_all
  .rw[Nr (by simp;omega),Nr (by omega)]
theorem aCQ(H:ad)(base n:Nat)(v:V)(id g off:Nat):A2 H base n v (.ref id g off)=if base<=id then(match au H id g with
 |some c=>if v.cells.length=n/\off+n<=c.length/\v.cells.all V.one then some (H.set id (.cells g (iQ c off v.cells)))else none
 |none=>none)else none:=rfl
open Go.RowKit
open Go.RowKit
section
variable {aK:eX} {μ:cp} {ae:Nat->Prop} {w w':World} {H:ad} {P:Program}
def aLR:∀(os:List Obj) (w w':World),cE aK μ ae w H->w'.heap=w.heap++os.toArray->w'.os=w.os->w'.tape=w.tape->w'.output=w.output->c8 aK μ ae w H μ ae w' H:=by
 intro os
 induction os with
 |nil=>intro w w' h J aa aI bl;exact L7 h (by simpa using J) aa aI bl
 |cons o os aF=>
   intro w w' h J aa aI bl;have k:c8 aK μ ae w H μ ae { w with heap:=w.heap.push o } H:=apS h o rfl rfl rfl rfl;refine k.trans (aF _ w' k.ak ?_ aa aI bl)
   simp_all
end
open Go.RowKit
abbrev nJ(rI:Nat->Option (Array Value × TypeId × Nat × Nat)):fA:=⟨fun _=>false,rI⟩
abbrev dH:fA:=nJ fun _=>none
theorem aK1(lt:List Nat)(P:Program)(rI:Nat->Option (Array Value × TypeId × Nat × Nat))(k:Nat):BS lt P (nJ rI) k=BS lt P dH k:=rfl
def dM{P:Program}(rI:Nat->Option (Array Value × TypeId × Nat × Nat)){lt:List Nat}{k:Nat}{c:dm}(h:BS lt P dH k=some (false,c.ntmps,c.results,c.body.bare)):iP P (nJ rI) k (.code c):=aFV ((aK1 lt P rI k).trans h)
section
variable {aK:eX} {μ:cp} {ae:Nat->Prop} {w w':World} {H:ad} {P:Program}
def Zi(h:cE aK μ ae w H)(ah:Below w.heap.size w w'):c8 aK μ ae w H μ ae w' H:=by
 have an:∀B,B<w.heap.size->¬ae B->w'.heap[B]?=w.heap[B]?:=fun B aD _=>ah.block B aD;have gG:∀(B:Nat) (arr:Array Value) (e:TypeId) (fr:Nat × Nat),w.heap[B]?=some (.cells arr e fr)->∃eK aW,w'.heap[B]?=some (.cells eK e aW)/\eK.size=arr.size:=
  fun B arr e fr aD=>⟨arr,fr,(ah.block B (hZ aD)).trans aD,rfl⟩
 have tV:∀(B:Nat) (arr:Array Value) (e:TypeId) (fr:Nat × Nat),w'.heap[B]?=some (.cells arr e fr)->(∃nG,w.heap[B]?=some (.cells nG e fr))\/w.heap.size<=B:=by
  intro B arr e fr aD;by_cases b8:B<w.heap.size
  .exact .inl ⟨arr,(ah.block B b8).symm.trans aD⟩
  .omega
 refine⟨cq _,⟨h.hz,fun id g B b e=>⟨(h.gF id g B b e).1,by have:=(h.gF id g B b e).2;have:=ah.size;omega⟩,fun id br g B b bm ab e=>?_,h.inj,h.mQ,h.wf,h.fixed (fun _ _ h=>h) an,h.zero⟩,fun _ _ _ h=>h,fun _ _=>Lw,
  ⟨ah.size,gG,fun B l aD=>⟨l,(ah.block B (hZ aD)).trans aD⟩,fun B aD _=>ah.block B aD,fun B arr e aD=>tV B arr e _ aD,ah.os,ah.tape,ah.output⟩,fun id g _ b e _=>⟨id,g,b,e⟩,fun _ g p e _=>⟨g,p,e⟩⟩
 obtain⟨gz,mv,ak⟩:=h.kY id br g B b bm ab e;exact⟨gz,(ah.block _ (hZ mv)).trans mv,ak.mono (fun _ _ _ h=>h) (fun _ _ h=>h) an gG⟩
def ZW(x:Int):List Int->List Int
 | []=>[x]
 |y::l=>if x<=y then x::y::l else y::ZW x l
def ac9:List Int->List Int
 | []=>[]
 |x::l=>ZW x (ac9 l)
def JR:Value->Option (DataW Unit × List MemPlace):=fun _=>some (.nil,[])
end
open Go.RowKit
def Fa:List V->Option (List ByteArray)
 | []=>some []
 |.s (.string b)::l=>(Fa l).map (b::·)
 |_::_=>none
def E2:List (List V)->Option (List ByteArray)
 | []=>some []
 | [.s (.string b)]::l=>(E2 l).map (b::·)
 |_::_=>none
def wU(H:ad):V->Option (List ByteArray)
 |.s (.slice none 0 0)=>some []
 |.c6=>some []
 |.dc es 1=>E2 es
 |.aZ id g off n 1=>match au H id g with
   |some c=>if((c.drop off).take n).length=n then Fa ((c.drop off).take n)else none
   |none=>none
 |_=>none
def aG2:∀{l:List V} {xs:List ByteArray},Fa l=some xs->l=xs.map fun b=>.s (.string b):=by
 intro l
 induction l with
 |nil=>intro xs h;cases h;rfl
 |cons x l aF=>
   intro xs h;unfold Fa at h;split at h
   .grind
   .rename_i b s3 e;cases e;rw[fy]at h
    grind
   .cases h
def ala:∀xs:List ByteArray,Fa (xs.map fun b=>V.s (.string b))=some xs:=by
 intro xs
 induction xs with
 |nil=>rfl
 |cons z aOS aF=>simp[Fa];exact aF
def aVI:∀{l:List (List V)} {xs:List ByteArray},E2 l=some xs->l=xs.map fun b=>[.s (.string b)]:=by
 intro l
 induction l with
 |nil=>intro xs h;cases h;rfl
 |cons x l aF=>
   intro xs h;unfold E2 at h;split at h
   .grind
   .rename_i b s3 e;cases e;rw[fy]at h
    grind
   .cases h
def jK(xs:List ByteArray)(sep:ByteArray):ByteArray:=⟨(Lib.join (xs.map (·.data.toList)) sep.data.toList).toArray⟩
def Gw:List V->Nat->ad->Option (V × ad)
 | [v,.s (.string sep)],_,H=>match wU H v with
   |some xs=>if xs.length<=140737488355328/\(Lib.join (xs.map (·.data.toList)) sep.data.toList).length<=140737488355328 then some (.s (.string (jK xs sep)),H)else none
   |none=>none
 |_,_,_=>none
def Dt:List V->Nat->ad->Option (V × ad)
 | [.ref id 0 0],base,H=>match au H id 0 with
   |some [.bu,v]=>if base<=id then some (bF,H.set id (.cells 0 [.ref id 0 0,v]))else none
   |some [.ref gw 0 0,_]=>if gw=id then some (bF,H)else none
   |_=>none
 |_,_,_=>none
def C3:List V->Nat->ad->Option (V × ad)
 | [.ref id 0 0],base,H=>match au H id 0 with
   |some [_,.s (.slice none 0 0)]=>some (.s (.string ⟨#[]⟩),H)
   |some [_,.aZ ni g 0 n 1]=>if base<=ni/\n≠0/\n<=140737488355328 then match H[ni]? with
      |some (.bytes g' l)=>if g'=g/\n=l.length then some (.s (.string ⟨l.toArray⟩),H.set ni .dead)else none
      |_=>none
     else none
   |_=>none
 |_,_,_=>none
def Gi:List V->Nat->ad->Option (V × ad)
 | [.s (.int .i64 n)],_,H=>if 0<=n/\n<100 then some (.s (.string ⟨(Lib.decDigits n.toNat).toArray⟩),H)else none
 |_,_,_=>none
section
variable {P:Program}
def aQO{pure':fA}{k:Nat}(k6:∀xs w,(callFunc k xs).run P w=.ok (.enter k xs) w)(ai:∀(i:Nat) (w:World),i<100->Calls P k #[.int .i64 i] w fun e w'=>e=.returned (.string ⟨(Lib.decDigits i).toArray⟩)/\w'=w):iP P pure' k (.hP Gi):=by
 refine⟨k6,fun vs base H r H' a8=>?_⟩;unfold Gi at a8;split at a8
 .rename_i n;split at a8
  .rename_i aJ;cases a8;refine⟨jC.refl _ _,fun μ ae w cs bm db m=>?_⟩;obtain⟨J,aa⟩:=db
   match cs,J with
   | [x],_=>
     have aE:=ei (aa 0 _ x rfl rfl);subst aE
     have ab:=ai n.toNat w (by omega)
     rw[show((n.toNat:Nat):Int)=n by omega]at ab
     refine callsIn_wide.2 (ab.mono ?_);rintro e w' ⟨rfl,rfl⟩;exact⟨_,μ,ae,rfl,.s _,c8.refl bm⟩
  .cases a8
 .cases a8
def aEE{pure':fA}{k:Nat}(k6:∀xs w,(callFunc k xs).run P w=.ok (.enter k xs) w)(bd:∀(a:Option Addr) (c:Nat) (sep:ByteArray) (w:World),Calls P k #[.slice a 0 c,.string sep] w fun e w'=>e=.returned (.string ⟨#[]⟩)/\w'=w)(ai:∀(vL o c:Nat) (xs:List ByteArray) (sep:ByteArray) (w:World),(∀(j:Nat) x,xs[j]?=some x->w.cell? ⟨vL,o+j,none⟩=some (.string x))->vL<w.heap.size->xs.length<=140737488355328->xs.length<=c->
  (Lib.join (xs.map (·.data.toList)) sep.data.toList).length<=140737488355328->
  Calls P k #[.slice (some ⟨vL,o,none⟩) xs.length c,.string sep] w fun e w'=>e=.returned (.string (jK xs sep))/\Below w.heap.size w w'):iP P pure' k (.hP Gw):=by
 refine⟨k6,fun vs base H r H' a8=>?_⟩;unfold Gw at a8;split at a8
 case h_2=>cases a8
 rename_i v sep;split at a8
 case h_2=>cases a8
 rename_i xs af;split at a8
 case isFalse=>cases a8
 rename_i ah;cases a8;refine⟨jC.refl _ _,fun μ ae w cs bm db m=>?_⟩;obtain⟨J,aa⟩:=db
 match cs,J with
 | [x,y],_=>
   have aU:=ei (aa 1 _ y rfl rfl);subst aU;have av:=aa 0 _ x rfl rfl
   have P3:∀(a:Option Addr) (c:Nat),xs=[]->x=.slice a 0 c->CallsIn Fence.wide m P k #[x,.string sep] w (mZ (eU P pure') μ ae w H (.s (.string (jK xs sep))) H):=by
    intro a c jL kt;subst jL kt;refine callsIn_wide.2 ((bd a c sep w).mono ?_);rintro e w' ⟨rfl,rfl⟩;exact⟨_,μ,ae,rfl,.s _,c8.refl bm⟩
   have aow:∀(vL o c:Nat),x=.slice (some ⟨vL,o,none⟩) xs.length c->(∀(j:Nat) b,xs[j]?=some b->w.cell? ⟨vL,o+j,none⟩=some (.string b))->vL<w.heap.size->xs.length<=c->
    CallsIn Fence.wide m P k #[x,.string sep] w (mZ (eU P pure') μ ae w H (.s (.string (jK xs sep))) H):=by
    intro vL o c kt ab b8 lZ;subst kt;refine callsIn_wide.2 ((ai vL o c xs sep w ab b8 ah.1 lZ ah.2).mono ?_);rintro e w' ⟨rfl,eZ⟩;exact⟨_,μ,ae,rfl,.s _,Zi bm eZ⟩
   unfold wU at af;split at af
   .cases af;exact P3 none 0 rfl (ei av)
   .cases af;cases av with
    |c6 a=>exact P3 (some a) 0 rfl rfl
   .rename_i es _;have wD:=aVI af;cases av with
    |iy _ cap a=>
      cases xs with
      |nil=>exact P3 _ _ rfl rfl
      |cons z aOS=>cases wD
    |dc _ _ B o cap arr e fr aD cS jZ bK dk p3=>
      have aq:es.length=xs.length:=by rw[wD];simp
      refine aow B o cap (by rw[aq]) (fun j b bz=>?_) (hZ aD) (by omega)
      have sZ:=(dQ.1 bz).1
      have aN8:es[j]?=some [V.s (.string b)]:=by rw[wD,ut,bz];rfl
      have aO:arr[o+j*1+0]?=some arr[o+j*1+0]:=mO (by omega)
      have:=ei (gW.vr (μ:=μ) (p3 j _ 0 _ _ aN8 rfl aO));rw[cell_of_heap aD];rw[this]at aO
      simpa using aO
   .rename_i id g off n _;split at af
    case h_2=>cases af
    rename_i c ab;split at af
    case isFalse=>cases af
    rename_i Bn;have jL:=aG2 af
    have aq:xs.length=n:=by
     have:=dV List.length jL;rw[Bn,pY]at this;exact this.symm
    cases av with
    |jw=>
      exact P3 _ _ (lX aq) rfl
    |aZ _ _ _ _ _ B b cap arr el hm aD lZ dk=>
      obtain⟨eK,aFL,oJ,aXW,fz⟩:=bm.row ab hm;rw[aD]at oJ;cases oJ
      refine aow B (b+off) cap (by rw[aq]) (fun j x bz=>?_) (hZ aD) (by omega)
      have sZ:=(dQ.1 bz).1
      have O5:c[off+j]?=some (V.s (.string x)):=by
       have:((c.drop off).take n)[j]?=(xs.map fun b=>V.s (.string b))[j]?:=by rw[jL]
       rw[mr (by omega),qP]at this
       rw[this,ut,bz];rfl
      have b8:=(dQ.1 O5).1
      have aO:arr[b+(off+j)]?=some arr[b+(off+j)]:=mO (by omega)
      have l0:=ei (fz (off+j) _ _ O5 aO);rw[cell_of_heap aD,qs,aO,l0]
   .cases af
def alv{e:TypeId}(h:ux P e=true):P.underlying e=some (.int .u8)/\P.cellsOf e=1:=by
 unfold ux at h
 grind
def ayE{e u:TypeId}(he:ux P e=true)(hu:P.underlying u=some (.int .u8))(count off n:Nat)(aJ:off+n<=count):liesAt P P.depth e count off u n=true:=by
 obtain⟨J,aa⟩:=alv he;have aQ:P.depth=(2*(P.types.size+Made.depth)+1)+1:=rfl;rw[aQ];simp only[liesAt,oi];left;rw[aQ];simp[rowAt,aa,aJ,sameLayout,J,hu,Nat.mod_one]
def azc(P:Program){w:World}{B:Nat}{arr:Array Value}{e:TypeId}(aD:w.heap[B]?=some (.cells arr e (0,0)))(bd:0<arr.size){p:Value}(ay:p.oneCell'=true):
 (storeCells ⟨B,0,none⟩ [p]).run P w=.ok () (w.setCell ⟨B,0,none⟩ p):=by
 have aMj:(⟨B,0,none⟩:Addr).add 0=⟨B,0,none⟩:=by unfold Addr.add;split<;>simp_all
 have tu:w.cell? ⟨B,0,none⟩=some arr[0]:=by simp[World.cell?,aD,bd]
 have azV:w.frozen? ⟨B,0,none⟩=false:=by simp[World.frozen?,aD]
 have ig:(store (⟨B,0,none⟩:Addr) p).run P w=.ok () (w.setCell ⟨B,0,none⟩ p):=by
  rw[run_store P w _ p _ ay,tu];simp[azV]
 simp only[storeCells,aMj,Sem.run_bind,ig,ev,Sem.run_pure]
def aDN{pure':fA}{k:Nat}{T:TypeId}(aB:∀e,CJ P e=true->e=T)(k6:∀xs w,(callFunc k xs).run P w=.ok (.enter k xs) w)(al:∀(b:Nat) (w:World),w.cell? ⟨b,0,none⟩=some (.pointer none)->w.shape? b=some (T,2)->w.frozen? ⟨b,0,none⟩=false->Calls P k #[.pointer (some ⟨b,0,none⟩)] w fun e w'=>e=.returned (.tuple #[])/\w'=w.setCell ⟨b,0,none⟩ (.pointer (some ⟨b,0,none⟩)))(hu:∀(b:Nat) (w:World),w.cell? ⟨b,0,none⟩=some (.pointer (some ⟨b,0,none⟩))->Calls P k #[.pointer (some ⟨b,0,none⟩)] w fun e w'=>e=.returned (.tuple #[])/\w'=w):iP P pure' k (.hP Dt):=by
 refine⟨k6,fun vs base H r H' a8=>?_⟩;unfold Dt at a8;split at a8
 case h_2=>cases a8
 rename_i id;split at a8
 case h_3=>cases a8
 .
  rename_i v ab;split at a8
  case isFalse=>cases a8
  rename_i Ge;cases a8
  refine⟨⟨by simp,fun j bz _=>by grind⟩,fun μ ae w cs bm db m=>?_⟩
  obtain⟨J,aa⟩:=db
  match cs,J with
  | [x],_=>
    have av:=aa 0 _ x rfl rfl;cases av with
    |ref _ _ _ B b hm=>
      have bK:=bm.zero _ _ _ hm;subst bK;obtain⟨o,aX,ak⟩:=bm.kY id _ 0 B 0 (oX ab) rfl hm
      cases o<;>first|exact ak.elim|skip
      rename_i arr e fr;obtain⟨rfl,ai,fz,sb⟩:=ak;obtain⟨f1,_,f3,f4⟩:=sb rfl rfl;have he:=aB e f1;subst he
      have fk:=al B w (by rw[cell_of_heap aX];exact f4) (by simp[World.shape?,aX,f3]) (by simp[World.frozen?,aX])
      refine callsIn_wide.2 (fk.mono ?_);rintro bN w' ⟨rfl,rfl⟩
      obtain⟨dJ,fv,h0⟩:=Mi (P:=P) (off:=0) (vs:=[.ref id 0 0]) (us:=[.pointer (some ⟨B,0+0,none⟩)]) bm ab hm (by simp) (bS.cons (.ref id 0 0 B 0 hm) b6.nil) rfl
      have aLO:=azc P aX (by omega) (p:=.pointer (some ⟨B,0,none⟩)) rfl
      have heq:=fv.symm.trans aLO;cases heq;exact⟨_,_,_,rfl,.s _,h0⟩
 .
  rename_i gw v ab;split at a8
  case isFalse=>cases a8
  rename_i hid;subst hid;cases a8;refine⟨jC.refl _ _,fun μ ae w cs bm db m=>?_⟩;obtain⟨J,aa⟩:=db
  match cs,J with
  | [x],_=>
    have av:=aa 0 _ x rfl rfl;cases av with
    |ref _ _ _ B b hm=>
      have bK:=bm.zero _ _ _ hm;subst bK;obtain⟨arr,e,aX,ai,fz⟩:=bm.row ab hm
      have b8:0<arr.size:=by simp at ai;omega
      have aO:arr[0+0]?=some arr[0]:=mO b8;have atj:=fz 0 _ _ rfl aO
      have ru:∀q,bS μ ae w (.ref gw 0 0) q->q=.pointer (some ⟨B,0,none⟩):=by
       intro q bJ;cases bJ with
       |ref _ _ _ zs b' hL=>
         grind
      have ru:=ru _ atj
      refine callsIn_wide.2 ((hu B w (by rw[cell_of_heap aX,<- ru];exact aO)).mono ?_)
      rintro bN w' ⟨rfl,rfl⟩;exact⟨_,μ,ae,rfl,.s _,c8.refl bm⟩
def ayZ{w:World}{B o n:Nat}{arr:Array Value}{e:TypeId}(aD:w.heap[B]?=some (.cells arr e (0,0)))(aJ:n≠0):(w.drew.freeze ⟨B,o,none⟩ n).heap=w.heap.setIfInBounds B (.cells arr e (o,o+n)):=by
 unfold World.freeze;rw[bV aJ];apply Array.ext_getElem?;intro i;have aQ:w.drew.heap=w.heap:=rfl
 grind
def aAi{pure':fA}{k:Nat}(k6:∀xs w,(callFunc k xs).run P w=.ok (.enter k xs) w)(aJ:∀(b:Nat) (w:World),w.cell? ⟨b,1,none⟩=some (.slice none 0 0)->Calls P k #[.pointer (some ⟨b,0,none⟩)] w fun e w'=>e=.returned (.string ⟨#[]⟩)/\Below w.heap.size w w')(ai:∀(b g o cap:Nat) (cur:Array Value) (el:TypeId) (l:List UInt8) (w:World),w.cell? ⟨b,1,none⟩=some (.slice (some ⟨g,o,none⟩) l.length cap)->w.heap[g]?=some (.cells cur el (0,0))->ux P el=true->o+l.length<=cur.size->l.length<=cap->l.length<=140737488355328->l≠[]->
  (∀(j:Nat) (x:UInt8),l[j]?=some x->w.cell? ⟨g,o+j,none⟩=some (.int .u8 x.toNat))->
  Calls P k #[.pointer (some ⟨b,0,none⟩)] w fun e w'=>e=.returned (.string ⟨l.toArray⟩)/\w'=w.drew.freeze ⟨g,o,none⟩ l.length):iP P pure' k (.hP C3):=by
 refine⟨k6,fun vs base H r H' a8=>?_⟩;unfold C3 at a8;split at a8
 case h_2=>cases a8
 rename_i id
 have as3:∀(μ:cp) (ae:Nat->Prop) (w:World) (a v:V) (B b:Nat),cE (eU P pure') μ ae w H->au H id 0=some [a,v]->μ id 0=some (B,b)->b=0/\∃c,w.cell? ⟨B,1,none⟩=some c/\bS μ ae w v c:=by
  intro μ ae w a v B b bm ab hm;have bK:=bm.zero _ _ _ hm;subst bK;obtain⟨arr,e,aX,ai,fz⟩:=bm.row ab hm
  have b8:1<arr.size:=by simp at ai;omega
  have aO:arr[0+1]?=some arr[1]:=mO b8
  exact⟨rfl,arr[1],by rw[cell_of_heap aX];exact aO,fz 1 _ _ rfl aO⟩
 split at a8
 case h_3=>cases a8
 .rename_i a ab;cases a8;refine⟨jC.refl _ _,fun μ ae w cs bm db m=>?_⟩;obtain⟨J,aa⟩:=db
  match cs,J with
  | [x],_=>
    have av:=aa 0 _ x rfl rfl;cases av with
    |ref _ _ _ B b hm=>
      obtain⟨rfl,c,jZ,fm⟩:=as3 μ ae w _ _ B b bm ab hm;rw[ei fm]at jZ;refine callsIn_wide.2 ((aJ B w jZ).mono ?_);rintro bN w' ⟨rfl,ah⟩;exact⟨_,μ,ae,rfl,.s _,Zi bm ah⟩
 .rename_i a ni g n ab;split at a8
  case isFalse=>cases a8
  rename_i ah;split at a8
  case h_2=>cases a8
  rename_i g' l aq;split at a8
  case isFalse=>cases a8
  rename_i QU;obtain⟨rfl,Hq⟩:=QU;cases a8
  refine⟨⟨by simp,fun j bz _=>by grind⟩,fun μ ae w cs bm db m=>?_⟩
  obtain⟨J,aa⟩:=db
  match cs,J with
  | [x],_=>
    have av:=aa 0 _ x rfl rfl;cases av with
    |ref _ _ _ B b hm=>
      obtain⟨rfl,c,jZ,fm⟩:=as3 μ ae w _ _ B b bm ab hm
      have kZ:l≠[]:=by intro e;subst e;exact ah.2.1 Hq
      cases fm with
      |jw=>omega
      |aZ _ _ _ _ _ nM eI cap arr el BP xG lZ dk=>
        obtain⟨o,aX,ak⟩:=bm.kY ni _ g' nM eI aq rfl BP;rw[xG]at aX;cases aX;obtain⟨rfl,tw,Bn,uj⟩:=ak;rw[Hq]at jZ
        refine callsIn_wide.2 ((ai B nM (eI+0) cap arr el l w jZ xG tw (by omega) (by omega) (by omega) kZ (fun j x bz=>?_)).mono ?_)
        .rw[cell_of_heap xG];grind
        .rintro bN w' ⟨rfl,rfl⟩
         have uO:l.length≠0:=by omega
         exact⟨_,_,_,rfl,.s _,aHz bm aq rfl BP xG (fr:=(eI+0,eI+0+l.length)) (by grind) (ayZ xG uO) (by unfold World.freeze;rw[bV uO];rfl) (by unfold World.freeze;rw[bV uO];rfl) (by unfold World.freeze;rw[bV uO];rfl)⟩
end
end Go.ea
set_option linter.unusedVariables false
namespace Go.ea
open Go.Proofs Go.Shelf Go.RowKit
variable {P:Program} {ρ:Ren}
def aKk{w:World}(PL it ty e el:TypeId)(ay:P.underlying PL=some (.pointer e))(he:P.underlying e=some (.int .u8))(kg:ux P el=true)(g o:Nat)(cur:Array Value)(a8:w.heap[g]?=some (.cells cur el (0,0)))(l:List UInt8)(bd:l≠[])(aJ:o+l.length<=cur.size)(aYu:l.length<=9223372036854775807)(tu:∀j x,l[j]?=some x->w.cell? ((⟨g,o,none⟩:Addr).add j)=some (.int .u8 x.toNat)):
 (Builtin.unsafeString_ #[PL,it] ty #[.pointer (some ⟨g,o,none⟩),.int .i64 l.length]).run P w=.ok (.string ⟨l.toArray⟩) (w.freeze ⟨g,o,none⟩ l.length):=by
 have aq:l.length≠0:=by simpa using bd
 have ahi:=Lib.run_loadBytes (P:=P) (w:=w) l ⟨g,o,none⟩ .empty tu
 have gG:w.shape? g=some (el,cur.size):=by simp[World.shape?,a8]
 have aSU:=ayE (P:=P) kg he (cur.size / P.cellsOf el) o l.length (by rw[(alv kg).2];simpa using aJ)
 have aN5:¬(9223372036854775807:Int)<(l.length:Int):=by omega
 have aH2:Builtin.unsafeString_ #[PL,it] ty #[.pointer (some ⟨g,o,none⟩),.int .i64 l.length]=
  (do
   let n <- asInt (.int .i64 l.length)
   if n<0 then runtimePanic (.error "unsafe.String: len out of range")
   if n > IntKind.i64.max then unsupported (.unsafePointer "String: a length above the largest int")
   if n=0 then pure (.string .empty)
   else if <- variablesAt ⟨g,o,none⟩ (<- elemOf PL) n.toNat then do
    let s <- loadBytes ⟨g,o,none⟩ .empty n.toNat
    freeze ⟨g,o,none⟩ n.toNat
    pure (.string s)
   else unsupported (.unsafePointer "String: not so many bytes at ptr")) := rfl
 rw[aH2];have aEI:IntKind.i64.max=9223372036854775807:=rfl
 have aWO:¬(l.length:Int)<0:=by omega
 simp[asInt,asIntOf,aEI,aN5,aWO,aq,variablesAt,gG,elemOf,run_underlying ay,aSU,ahi]
set_option maxHeartbeats 1000000 in
set_option maxRecDepth 100000 in
def aNu(L:Lays.n169 P ρ)(X:Builder.Extra P ρ)(b g o cap:Nat)(cur:Array Value)(el:TypeId)(l:List UInt8)(w:World)(ab:w.cell? ⟨b,1,none⟩=some (.slice (some ⟨g,o,none⟩) l.length cap))(a8:w.heap[g]?=some (.cells cur el (0,0)))(kg:ux P el=true)(Bn:o+l.length<=cur.size)(lZ:l.length<=cap)(aXv:l.length<=140737488355328)(bd:l≠[])(tu:∀(j:Nat) (x:UInt8),l[j]?=some x->w.cell? ⟨g,o+j,none⟩=some (.int .u8 x.toNat)):
 Calls P (ρ.f 169) #[.pointer (some ⟨b,0,none⟩)] w fun e w'=>e=.returned (.string ⟨l.toArray⟩)/\w'=w.drew.freeze ⟨g,o,none⟩ l.length:=by
 have kZ:l.length≠0:=by simpa using bd
 have cj:w.drew.cell? ⟨b,1,none⟩=some (.slice (some ⟨g,o,none⟩) l.length cap):=ab;have aR9:(Builtin.unsafeSliceData_ #[(ρ.t 37)] (ρ.t 127) #[.slice (some ⟨g,o,none⟩) l.length cap]).run P w.drew=.ok (.pointer (some ⟨g,o,none⟩)) w.drew:=
  Lib.run_unsafeSliceData_row _ _ _ _ _ _ (by omega)
 have aVg:(Builtin.unsafeString_ #[(ρ.t 127),(ρ.t 3)] (ρ.t 9) #[.pointer (some ⟨g,o,none⟩),.int .i64 l.length]).run P w.drew=.ok (.string ⟨l.toArray⟩) (w.drew.freeze ⟨g,o,none⟩ l.length):=
  aKk (w:=w.drew) (ρ.t 127) (ρ.t 3) (ρ.t 9) (ρ.t 5) el L.t127 X.t5 kg g o cur a8 l bd Bn (by omega) (fun j x bz=>by
   have e:(⟨g,o,none⟩:Addr).add j=⟨g,o+j,none⟩:=by unfold Addr.add;split<;>simp_all
   rw[e];exact tu j x bz)
 have mixed:=L.mixed;have t72:=L.t72;have a72:=L.a72;have z72:=L.z72;have v72:=L.v72;have aNt:=run_underlying L.t72;have t70:=L.t70;have a70:=L.a70;have z70:=L.z70;have v70:=L.v70;have aIk:=run_underlying L.t70;have t37:=L.t37;have a37:=L.a37;have z37:=L.z37;have v37:=L.v37;have aHm:=run_underlying L.t37;have t127:=L.t127;have a127:=L.a127;have z127:=L.z127;have v127:=L.v127;have aWG:=run_underlying L.t127;have t3:=L.t3;have a3:=L.a3;have z3:=L.z3;have v3:=L.v3;have jW:=run_underlying L.t3;have t9:=L.t9;have a9:=L.a9;have z9:=L.z9;have v9:=L.v9;have r8:=run_underlying L.t9;have t5:=X.t5;have a5:=X.a5;have z5:=X.z5;have v5:=X.v5;have om:=run_underlying X.t5
 go_enter L.f169,Body.n169_ntmps ρ
 go_wp2
 go_region_o
 all_goals (go_wp2;go_ret;exact⟨rfl,rfl⟩)
set_option maxHeartbeats 2000000 in
set_option maxRecDepth 100000 in
def aVQ(L:Lays.n169 P ρ)(X:Builder.Extra P ρ)(b:Nat)(w:World)(ab:w.cell? ⟨b,1,none⟩=some (.slice none 0 0)):
 Calls P (ρ.f 169) #[.pointer (some ⟨b,0,none⟩)] w fun e w'=>e=.returned (.string ⟨#[]⟩)/\Below w.heap.size w w':=by
 have aVg:=Any.unsafeString_none L X;have cj:w.drew.cell? ⟨b,1,none⟩=some (.slice none 0 0):=ab;have aR9:(Builtin.unsafeSliceData_ #[(ρ.t 37)] (ρ.t 127) #[.slice none 0 0]).run P w.drew=.ok (.pointer none) w.drew:=rfl;have mixed:=L.mixed;have t72:=L.t72;have a72:=L.a72;have z72:=L.z72;have v72:=L.v72;have aNt:=run_underlying L.t72;have t70:=L.t70;have a70:=L.a70;have z70:=L.z70;have v70:=L.v70;have aIk:=run_underlying L.t70;have t37:=L.t37;have a37:=L.a37;have z37:=L.z37;have v37:=L.v37;have aHm:=run_underlying L.t37;have t127:=L.t127;have a127:=L.a127;have z127:=L.z127;have v127:=L.v127;have aWG:=run_underlying L.t127;have t3:=L.t3;have a3:=L.a3;have z3:=L.z3;have v3:=L.v3;have jW:=run_underlying L.t3;have t9:=L.t9;have a9:=L.a9;have z9:=L.z9;have v9:=L.v9;have r8:=run_underlying L.t9;have t5:=X.t5;have a5:=X.a5;have z5:=X.z5;have v5:=X.v5;have om:=run_underlying X.t5
 go_enter L.f169,Body.n169_ntmps ρ
 go_wp2
 go_region_o
 all_goals (go_wp2;go_ret;exact⟨rfl,Below.drew (Below.refl _ w)⟩)
end Go.ea
set_option maxRecDepth 100000
namespace Go.Proofs.YtngfpadeebpoeaaGreatDoor
open Go.RowKit Go.ea Go.Shelf
def aGC(P : Program){t : TypeId}(h : CJ P t = true) : ∃i, P.types[t]? = some i /\ (i.str == "strings.Builder") = true := by
 unfold CJ at h;split at h
 .rename_i i hi;exact⟨i,hi,h⟩
 .cases h
theorem aBw : (Tryz.prog.types.toList.zipIdx.all fun p => !(p.1.str == "strings.Builder")||p.2==61) = true := by kernel_rfl
def aJl:∀e,CJ Tryz.prog e=true->e=61:=by
 intro e h;obtain⟨i,hi,ai⟩:=aGC _ h
 have pc:Tryz.prog.types.toList[e]?=some i:=by simpa using hi
 have:=fp.1 aBw (i,e) (List.mem_zipIdx_iff_getElem?.2 (by simpa using pc))
 rw[ai]at this
 simpa using this
def aGr{q8:fA}:iP Tryz.prog q8 20 (.hP Gw):=
 aEE (Go.Proofs.enters_of Tryz.func20 (by kernel_rfl) rfl) (fun a c sep w=>Any.strings_Join_none Tryz.Ga Tryz.extra a c sep w) (fun vL o c xs sep w J aa aI bl cO=>Any.strings_Join Tryz.Ga Tryz.extra vL o c xs sep w J aa aI bl cO)
def aCg{q8:fA}:iP Tryz.prog q8 70 (.hP Dt):=
 aDN aJl (Go.Proofs.enters_of Tryz.func70 (by kernel_rfl) rfl) (fun b w J aa aI=>Any.Builder_copyCheck_fresh { Tryz.Ga with } Tryz.extra.toX72 b w J aa aI) (fun b w J=>Any.Builder_copyCheck_used { Tryz.Ga with } Tryz.extra.toX72 b w J)
def aLo{q8:fA}:iP Tryz.prog q8 24 (.hP C3):=
 aAi (Go.Proofs.enters_of Tryz.func24 (by kernel_rfl) rfl) (fun b w h=>aVQ { Tryz.Ga with } Tryz.extra b w h) (fun b g o cap cur el l w J aa aI bl cO fQ qB tw=>aNu { Tryz.Ga with } Tryz.extra b g o cap cur el l w J aa aI bl cO fQ qB tw)
def aLM{q8:fA}:iP Tryz.prog q8 53 (.hP Gi):=
 aQO (Go.Proofs.enters_of Tryz.func53 (by kernel_rfl) rfl) (fun i w hi=>Any.strconv_Itoa_small { Tryz.aHL with } i hi w)
end Go.Proofs.YtngfpadeebpoeaaGreatDoor
namespace Go.ea
open Go.RowKit
def HF:List V->Nat->ad->Option (V × ad)
 | [.s (.string s),.s (.string p)],_,H=>if s.size<=4611686018427387904 then some (.s (.string ⟨(Lib.trimSuffix s.data.toList p.data.toList).toArray⟩),H)else none
 |_,_,_=>none
def aT5{P:Program}{pure':fA}{k:Nat}(k6:∀xs w,(callFunc k xs).run P w=.ok (.enter k xs) w)(ai:∀(s p:ByteArray) (w:World),s.size<=9223372036854775807->Calls P k #[.string s,.string p] w fun e w'=>e=.returned (.string ⟨(Lib.trimSuffix s.data.toList p.data.toList).toArray⟩)/\w'=w):iP P pure' k (.hP HF):=by
 refine⟨k6,fun vs base H r H' a8=>?_⟩;unfold HF at a8;split at a8
 case h_2=>cases a8
 rename_i s p;split at a8
 case isFalse=>cases a8
 rename_i ah;cases a8;refine⟨jC.refl _ _,fun μ ae w cs bm db m=>?_⟩;obtain⟨J,aa⟩:=db
 match cs,J with
 | [x,y],_=>
   have aE:=ei (aa 0 _ x rfl rfl);have aU:=ei (aa 1 _ y rfl rfl);subst aE aU
   refine callsIn_wide.2 ((ai s p w (by omega)).mono ?_)
   rintro e w' ⟨rfl,rfl⟩;exact⟨_,μ,ae,rfl,.s _,c8.refl bm⟩
inductive mf where
 |int (k:IntKind)|bool|str
 |aZ (e:mf)
 |st (fs:List mf)
 deriving Inhabited
mutual
def mf.width:mf->Nat
 |.int _=>1
 |.bool=>1
 |.str=>1
 |.aZ _=>1
 |.st fs=>Bh fs
def Bh:List mf->Nat
 | []=>0
 |f::fs=>f.width+Bh fs
end
mutual
def nW(P:Program):Nat->mf->TypeId->Bool
 |0,_,_=>false
 |n+1,ty,t=>match ty,P.underlying t with
   |.int k,some (.int ia)=>k==ia
   |.bool,some .bool=>true
   |.str,some .string=>true
   |.aZ e,some (.slice bN)=>nW P n e bN&&P.cellsOf bN==e.width&&decide (0<e.width)
   |.st fs,some (.struct gs)=>P.cellsOf t==Bh fs&&CK P n 0 fs gs.toList
   |_,_=>false
def CK(P:Program):Nat->Nat->List mf->List Field->Bool
 |0,_,_,_=>false
 |n+1,off,fs,gs=>match fs,gs with
   | [],[]=>true
   |f::fs,g::gs=>g.offset==off&&P.cellsOf g.type==f.width&&nW P n f g.type&&CK P n (off+f.width) fs gs
   |_,_=>false
end
mutual
def lK:mf->List V->Prop
 |.int k,cs=>∃n,cs=[.s (.int k n)]/\k.min<=n/\n<=k.max
 |.bool,cs=>∃b,cs=[.s (.bool b)]
 |.str,cs=>∃b,cs=[.s (.string b)]/\b.size<=maxLen
 |.aZ e,cs=>cs=[cm]\/∃es:List (List V),cs=[.dc es e.width]/\es.length<=maxLen/\∀x∈es,lK e x
 |.st fs,cs=>Dw fs cs
def Dw:List mf->List V->Prop
 | [],cs=>cs=[]
 |f::fs,cs=>∃a b,cs=a++b/\lK f a/\Dw fs b
end
mutual
theorem lK.len:∀(t:mf) {cs:List V},lK t cs->cs.length=t.width
 |.int _,cs,h=>by obtain⟨n,rfl,_⟩:=h;rfl
 |.bool,cs,h=>by obtain⟨n,rfl⟩:=h;rfl
 |.str,cs,h=>by obtain⟨n,rfl,_⟩:=h;rfl
 |.aZ e,cs,h=>by rcases h with rfl|⟨es,rfl,_⟩<;>rfl
 |.st fs,cs,h=>Dw.len fs h
theorem Dw.len:∀(fs:List mf) {cs:List V},Dw fs cs->cs.length=Bh fs
 | [],cs,h=>by cases h;rfl
 |f::fs,cs,h=>by
   obtain⟨a,b,rfl,J,aa⟩:=h;rw[c0,lK.len f J,Dw.len fs aa];rfl
end
abbrev pH(w:World)(vs:List V)(cs:List Value):Prop:=vs.length=cs.length/\∀(i:Nat) (a:V) (b:Value),vs[i]?=some a->cs[i]?=some b->gW (fun _=>False) w a b
def pH.app{w:World}{a b:List V}{c d:List Value}(h:pH w a c)(k:pH w b d):pH w (a++b) (c++d):=by
 grind
def pH.one{w:World}{a:V}{b:Value}(h:gW (fun _=>False) w a b):pH w [a] [b]:=⟨rfl,fun i x y af bC=>by
 grind⟩
def pH.J3{w:World}{vs:List V}{cs:List Value}(h:pH w vs cs):b6 (fun _ _=>none) (fun _=>False) w vs cs:=⟨h.1,fun i a b aO ah=>(h.2 i a b aO ah).vr⟩
def aWV{α β:Type}{f:α->Option β}{l:List α}{us:List β}(h:l.mapM f=some us):us.length=l.length/\∀(i:Nat) (v:α),l[i]?=some v->∃u,us[i]?=some u/\f v=some u:=by
 obtain⟨J,aa⟩:=apq h;refine⟨J,fun i v av=>?_⟩
 have hi:i<us.length:=by rw[J];exact(dQ.1 av).1
 exact⟨us[i],eP hi,aa i v _ av (eP hi)⟩
section
variable {H:Type} {enc:TypeId × Value->H} {P:Program} {w:World} {base:Nat} {sp:Nat->Bool} {held:Bool}
theorem aup(a:Addr)(j:Nat):(a.add j).block=a.block:=by unfold Addr.add;split<;>rfl
def aab{a:Addr}(h:a.spot=none)(j:Nat):(a.add j).off=a.off+j:=by
 unfold Addr.add
 grind
def Zl{a:Addr}{n:Nat}{cs:List Value}(h:w.cells? base a n=some cs)(aJ:0<n):∃arr e fr,w.heap[a.block]?=some (.cells arr e fr)/\a.spot=none/\cs.length=n/\a.off+n<=arr.size/\∀j,j<n->cs[j]?=arr[a.off+j]?:=by
 unfold World.cells? at h;split at h
 .obtain⟨J,aa⟩:=aWV h;simp only[List.length_range]at J
  have key:∀j,j<n->∃u,cs[j]?=some u/\w.cell? (a.add j)=some u:=fun j bz=>aa j j (by simp[bz])
  obtain⟨ym,_,pO⟩:=key 0 aJ;unfold World.cell? at pO;split at pO
  .rename_i c e fr hh;have eZ:∀j,(a.add j).block=a.block:=fun j=>aup a j;rw[eZ]at hh;split at pO
   .cases pO
   .rename_i oG
    have oG:a.spot=none:=by
     cases ai:a.spot with
     |none=>rfl
     |some x=>exact absurd (by show(a.add 0).spot.isSome=true;simp[Addr.add,ai]) oG
    have all:∀j,j<n->cs[j]?=c[a.off+j]?:=by
     intro j bz;obtain⟨u,hu,ab⟩:=key j bz;unfold World.cell? at ab;rw[eZ,hh]at ab;simp only[]at ab;split at ab
     .cases ab
     .rw[hu];have:(a.add j).off=a.off+j:=aab oG j
      simp_all
    refine⟨c,e,fr,hh,oG,J,?_,all⟩
    have aq:=all (n-1) (by omega)
    grind
  .cases pO
 .cases h
def aUB{n:Nat}{k:IntKind}{t:TypeId}(h:nW P n (.int k) t=true):P.underlying t=some (.int k):=by
 cases n with
 |zero=>simp[nW]at h
 |succ n=>
   simp only[nW]at h
   grind
def aCt{n:Nat}{t:TypeId}(h:nW P n .bool t=true):P.underlying t=some .bool:=by
 cases n with
 |zero=>simp[nW]at h
 |succ n=>
   simp only[nW]at h
   grind
def aRk{n:Nat}{t:TypeId}(h:nW P n .str t=true):P.underlying t=some .string:=by
 cases n with
 |zero=>simp[nW]at h
 |succ n=>
   simp only[nW]at h
   grind
def aW1{n:Nat}{e:mf}{t:TypeId}(h:nW P n (.aZ e) t=true):∃m bN,P.underlying t=some (.slice bN)/\nW P m e bN=true/\P.cellsOf bN=e.width/\0<e.width:=by
 cases n with
 |zero=>simp[nW]at h
 |succ n=>
   simp only[nW]at h
   grind
def aIn{n:Nat}{fs:List mf}{t:TypeId}(h:nW P n (.st fs) t=true):∃m gs,P.underlying t=some (.struct gs)/\P.cellsOf t=Bh fs/\CK P m 0 fs gs.toList=true:=by
 cases n with
 |zero=>simp[nW]at h
 |succ n=>
   simp only[nW]at h
   grind
def aL0:∀(fuel n:Nat) (ty:mf) (t:TypeId) (cs:List Value) (x:DataW H × List MemPlace),nW P n ty t=true->DataW.trod enc P w base sp held fuel t cs=some x->∃vs,lK ty vs/\pH w vs cs:=by
 intro fuel
 induction fuel with
 |zero=>intro n ty t cs x _ h;simp[DataW.trod]at h
 |succ fuel aF=>
   intro n ty t cs x aY h;cases ty with
   |int k=>
     obtain⟨m,rfl,_,hw⟩:=DataW.trod_int (aUB aY) h;simp only[Lit.wf,dR,l8]at hw;exact⟨[.s (.int k m)],⟨m,rfl,hw.1,hw.2⟩,pH.one (.s _)⟩
   |bool=>
     obtain⟨b,rfl,_⟩:=DataW.trod_bool (aCt aY) h;exact⟨[.s (.bool b)],⟨b,rfl⟩,pH.one (.s _)⟩
   |str=>
     obtain⟨b,rfl,_,ah⟩:=DataW.trod_string (aRk aY) h;exact⟨[.s (.string b)],⟨b,rfl,ah⟩,pH.one (.s _)⟩
   |aZ e=>
     obtain⟨m,bN,hu,he,hw,bd⟩:=aW1 aY
     rcases DataW.trod_slice hu h with⟨rfl,_⟩|⟨a,len,cap,elems,rest,b5,aJ,rfl,_,ah,Xo,aXr,kg,hM,_⟩
     .exact⟨[cm],.inl rfl,pH.one (.s _)⟩
     .have lL:b5=fuel:=by omega
      subst lL;rw[hw]at hM;by_cases aq:len=0
      .subst aq
       exact⟨[.dc [] e.width],.inr ⟨[],rfl,gY _,fun x af=>by cases af⟩,pH.one (.iy _ _ _)⟩
      .
       have one:∀i,i<len->∃cs vs,w.cells? base (a.add (i*e.width)) e.width=some cs/\lK e vs/\pH w vs cs:=by
        intro i hi;have hh:=hM i hi
        have:elems[i]?=some elems[i]:=eP (by omega)
        rw[this,e4]at hh;obtain⟨cs,J,aa⟩:=hh;obtain⟨vs,aI,bl⟩:=aF m e bN cs _ he aa;exact⟨cs,vs,J,aI,bl⟩
       obtain⟨hg,_,pO,_,_⟩:=one 0 (by omega)
       rw[R7]at pO
       have tB:a.add 0=a:=by simp[Addr.add]
       rw[tB]at pO;obtain⟨arr,el,fr,aD,oG,_,_,_⟩:=Zl pO bd
       have pos:∀i,i<len->∃vs,lK e vs/\a.off+i*e.width+e.width<=arr.size/\∀(j:Nat) (x:V) (y:Value),vs[j]?=some x->arr[a.off+i*e.width+j]?=some y->gW (fun _=>False) w x y:=by
        intro i hi;obtain⟨cs,vs,J,aa,aI⟩:=one i hi;obtain⟨eK,aFL,aW,oJ,_,fk,dk,O5⟩:=Zl J bd;rw[aup,aD]at oJ;cases oJ;rw[aab oG]at dk O5;refine⟨vs,aa,dk,fun j x y af bC=>?_⟩
        have bz:j<e.width:=by rw[<- aa.len];exact(dQ.1 af).1
        exact aI.2 j x y af (by simp_all)
       obtain⟨es,NB,T'⟩:∃es:List (List V),es.length=len/\∀i vs,es[i]?=some vs->lK e vs/\a.off+i*e.width+e.width<=arr.size/\∀(j:Nat) (x:V) (y:Value),vs[j]?=some x->arr[a.off+i*e.width+j]?=some y->gW (fun _=>False) w x y:=by
        have:∀k,k<=len->∃es:List (List V),es.length=k/\∀i vs,es[i]?=some vs->lK e vs/\a.off+i*e.width+e.width<=arr.size/\∀(j:Nat) (x:V) (y:Value),vs[j]?=some x->arr[a.off+i*e.width+j]?=some y->gW (fun _=>False) w x y:=by
         intro k
         induction k with
         |zero=>simp_all
         |succ k aUr=>
           intro an
           obtain⟨es,J,aa⟩:=aUr (by omega)
           obtain⟨vs,aI⟩:=pos k (by omega)
           refine⟨es++[vs],by simp[J],fun i us hi=>?_⟩
           by_cases c:i<es.length
           .grind
           grind
        simp_all
       refine⟨[.dc es e.width],.inr ⟨es,rfl,by omega,fun x af=>?_⟩,pH.one ?_⟩
       .obtain⟨i,hi⟩:=List.mem_iff_getElem?.1 af
        grind
       .have aTB:Value.slice (some a) len cap=.slice (some ⟨a.block,a.off,none⟩) es.length cap:=by
         rw[NB]
         congr 2
         cases a;simp at oG;subst oG;rfl
        rw[aTB]
        refine .dc es e.width a.block a.off cap arr el fr aD (fun h=>h) (by omega) (fun i vs hi=>(T' i vs hi).1.len) ?_ (fun i vs j x y hi af bC=>(T' i vs hi).2.2 j x y af bC)
        have aYI:=(T' (len-1) es[len-1] (eP (by omega))).2.1
        rw[NB]
        have:len*e.width=(len-1)*e.width+e.width:=by
         obtain⟨k,rfl⟩:∃k,len=k+1:=⟨len-1,by omega⟩
         grind
        omega
   |st fs=>
     obtain⟨m,gs,hu,hw,tQ⟩:=aIn aY;obtain⟨xs,b5,aJ,_,fk,oy,hM⟩:=DataW.trod_struct hu h
     have lL:b5=fuel:=by omega
     subst lL
     have key:∀(fs:List mf) (m off:Nat) (DQ:List Field),CK P m off fs DQ=true->(∀g∈DQ,∃y,DataW.trod enc P w base sp held b5 g.type ((cs.drop g.offset).take (P.cellsOf g.type))=some y)->off+Bh fs=cs.length->∃vs,Dw fs vs/\pH w vs (cs.drop off):=by
      intro fs
      induction fs with
      |nil=>
        intro m off DQ _ _ aX;refine⟨[],rfl,?_⟩
        rw[BR (by simp[Bh]at aX;omega)]
        grind
      |cons f fs aVS=>
        intro m off DQ nq a8 aX;cases m with
        |zero=>simp[CK]at nq
        |succ m=>
          cases DQ with
          |nil=>simp[CK]at nq
          |cons g DQ=>
            simp only[CK,dR,lc]at nq;obtain⟨⟨⟨J,aa⟩,aI⟩,bl⟩:=nq;obtain⟨y,bC⟩:=a8 g hJ;obtain⟨ahm,Oj,T9⟩:=aF m f g.type _ y aI bC
            obtain⟨auB,eg,km⟩:=aVS m (off+f.width) DQ bl (fun g AM=>a8 g (d9 _ AM)) (by simp only[Bh]at aX;omega)
            refine⟨ahm++auB,⟨ahm,auB,rfl,Oj,eg⟩,?_⟩
            grind
     obtain⟨vs,J,aa⟩:=key fs m 0 gs.toList tQ (fun g a8=>by
      obtain⟨i,hi⟩:=List.mem_iff_getElem?.1 a8
      grind) (by omega)
     exact⟨vs,J,by simpa using aa⟩
def aA6:mf->List V->V
 |.st _,vs=>.agg vs
 |_,[v]=>v
 |_,_=>.bu
def ave{n:Nat}{ty:mf}{t:TypeId}{v:Value}{d:DataW H}{ps:List MemPlace}(aY:nW P n ty t=true)(al:(match ty with|.st _=>∃vs,v=.agg vs|_=>v.cells.toList=[v]))(h:DataW.Trod enc P w base sp held t v d ps):
 ∃vs,lK ty vs/\bS (fun _ _=>none) (fun _=>False) w (aA6 ty vs) v:=by
 obtain⟨fuel,h⟩:=h;obtain⟨vs,J,aa⟩:=aL0 fuel n ty t _ _ aY h;refine⟨vs,J,?_⟩
 have one:vs.length=1->v.cells.toList=[v]->∃x,vs=[x]/\bS (fun _ _=>none) (fun _=>False) w x v:=by
  intro aq ab
  match vs,aq with
  | [x],_=>
    rw[ab]at aa;exact⟨x,rfl,(aa.2 0 x v rfl rfl).vr⟩
 cases ty with
 |st fs=>
   obtain⟨us,rfl⟩:=al;exact Kd (vs:=us.toList) aa.J3
 |_=>
   obtain⟨x,rfl,af⟩:=one J.len al;exact af
end
def aWL(k:Int)(w:Nat):List Int:=((List.range 64).filter fun b=>w.testBit b).map fun(b:Nat)=>k*64+(b:Int)
def aOI(hc:List Int)(f:Int->Nat):List Int:=(ac9 hc).flatMap fun k=>aWL k (f k)
theorem zb(H:ad)(f:Nat)(a b:List b0)(vs:List V):hx H (.ez f a b) (some vs)=some (.fn f (a.map (aV vs)) (b.map (aV vs))):=rfl
def VV{m:Nat}{fr:List V}{H:ad}(h:m<=H.length):m<=(trim m fr H).length:=by
 rcases zH m fr H with e|⟨e,_⟩<;>rw[e]
 .exact h
 simp_all
theorem Uq(m:Nat)(fr:List V)(H:ad):trim m fr H=H\/(trim m fr H=H.take m/\(∀v∈fr,ir m 8 v=true)/\∀id g c,id<m->au H id g=some c->∀i h o n z,V.aZ i h o n z∈c->i<m):=by
 unfold trim;split
 .rename_i h;simp only[dR,fp]at h;refine .inr ⟨rfl,h.1,?_⟩;intro id g c hid ab i lz o n z af;unfold au at ab;split at ab
  .rename_i g' c' hh;split at ab
   .cases ab
    have hm:aM.cells g' c∈H.take m:=by
     have:(H.take m)[id]?=some (aM.cells g' c):=by rw[mr hid];exact hh
     exact ib this
    have:=h.2 _ hm;simp only[aM.under,fp]at this;have:=this _ af
    simpa[ir]using this
   .cases ab
  .cases ab
 .exact .inl rfl
def xB{m:Nat}{fr:List V}{H:ad}{id g:Nat}{c:List V}(ab:au H id g=some c)(hid:id<m):au (trim m fr H) id g=some c:=by
 rcases Uq m fr H with e|⟨e,_⟩<;>rw[e]
 .exact ab
 .unfold au at ab |-
  simp_all
def p9(m:Nat)(H:ad)(v:V)(l:List V):Prop:=(l=[]/\(v=cm\/v=.c6))\/∃id g c,v=.aZ id g 0 l.length 1/\au H id g=some c/\l.length<=c.length/\c.take l.length=l/\m<=id
def p9.rd{m:Nat}{H:ad}{v:V}{l:List V}(h:p9 m H v l):Rd H v l:=by
 rcases h with⟨rfl,rfl|rfl⟩|⟨id,g,c,rfl,ab,aq,aY,_⟩
 .exact Rd.nil H
 .exact Rd.c6 H
 .have:=Rd.aZ ab (off:=0) (n:=l.length) (by omega)
  simp_all
def fJ{H:ad}{id g:Nat}{c c':List V}(h:au H id g=some c):au (H.set id (.cells g c')) id g=some c':=EX h _
def aFG(b:Bool):V:=.s (.bool b)
def aTg(a b:Int):Instr.sameNow (.int .i64) (.int .i64 a) (.int .i64 b)=some (a==b):=by simp[Instr.sameNow]
def LA(H:ad)(base:Nat)(kind:TypeDesc)(m k v:V):Option (V × ad):=
 match m,k with
  |.mp id,.s key=>if base<=id/\n1 kind key then match H[id]? with
     |some (.map es)=>match oC kind key es 0 with
       |some (some (i,_))=>some (bF,H.set id (.map (es.set i (key,v))))
       |some none=>some (bF,H.set id (.map (es++[(key,v)])))
       |none=>none
     |_=>none
    else none
  |_,_=>none
theorem aL3(call:c5)(base:Nat)(fr:List V)(H:ad)(kind:TypeDesc)(m k v:b0):bf call base fr H (.eJ kind m k v)=LA H base kind (aV fr m) (aV fr k) (aV fr v):=rfl
def aR7(H:ad)(base:Nat)(kind:TypeDesc)(m k:V):Option (V × ad):=
 match m,k with
  |.mp id,.s key=>if base<=id/\n1 kind key then match H[id]? with
     |some (.map es)=>match oC kind key es 0 with
       |some (some (i,_))=>some (bF,H.set id (.map (es.eraseIdx i)))
       |some none=>some (bF,H)
       |none=>none
     |_=>none
    else none
  |_,_=>none
theorem aKs(call:c5)(base:Nat)(fr:List V)(H:ad)(kind:TypeDesc)(m k:b0):bf call base fr H (.delete kind m k)=aR7 H base kind (aV fr m) (aV fr k):=rfl
def aGf{H:ad}{j:Nat}{br:aM}(h:H[j]?=some br):H.set j br=H:=by
 apply yb
 grind
def M7(H:ad)(id:Nat):Option cy->Option (V × ad)
 |some (e,_,H)=>match H[id]? with
   |some (.loop .busy none t p a b)=>some (ar (e=.bR),H.set id (.loop (if e=.bR then .ready else .done) (F7 e) t p a b))
   |_=>none
 |none=>none
theorem aTi(fr:List V):Bf [] [] fr=some fr:=rfl
def aza(p:Nat)(ps:List Nat)(v:V)(vs:List V)(n:Nat)(dT:Env):Bf (p::ps) (v::vs) (ax n dT)=Bf ps vs (ax n (zG p v dT)):=by
 simp only[Bf,Vd]
abbrev aEw:=List Int × (Int->Nat)
def el(p:aEw):List Int:=aOI p.1 p.2
def FK(L:Nat)(fr:List V):Option (V × ad)->Option cy
 |some (_,H')=>match H'[L]? with
   |some (.loop .ready none _ _ _ _)=>some (.bR,fr,trim L fr (H'.set L .dead))
   |some (.loop .done (some e) _ _ _ _)=>some (e,fr,trim L fr (H'.set L .dead))
   |_=>none
 |none=>none
def ale(call:c5)(base:Nat)(ps:List Nat)(a b:bZ)(fr:List V)(H:ad):V->Option cy
 |.fn k x y=>FK H.length fr (call (.fn k x y) [.ff H.length] base (H++[.loop .ready none fr ps a b]))
 |_=>none
theorem aNi(call:c5)(it:hE)(base:Nat)(f:b0)(ps:List Nat)(a b:bZ)(fr:List V)(H:ad):aL call it base (.rangeFunc f ps a b) fr H=ale call base ps a b fr H (aV fr f):=by
 simp only[aL];cases aV fr f<;>rfl
theorem ayI(call:c5)(base:Nat)(ps:List Nat)(a b:bZ)(fr:List V)(H:ad)(k:Nat)(x y:List V):ale call base ps a b fr H (.fn k x y)=FK H.length fr (call (.fn k x y) [.ff H.length] base (H++[.loop .ready none fr ps a b])):=rfl
def aNJ{L:Nat}{fr:List V}{v:V}{H':ad}{t:List V}{p:List Nat}{a b:bZ}(h:H'[L]?=some (.loop .ready none t p a b)):FK L fr (some (v,H'))=some (.bR,fr,trim L fr (H'.set L .dead)):=by simp only[FK,h]
def ayC{L:Nat}{fr:List V}{v:V}{H':ad}{e:nE}{t:List V}{p:List Nat}{a b:bZ}(h:H'[L]?=some (.loop .done (some e) t p a b)):FK L fr (some (v,H'))=some (e,fr,trim L fr (H'.set L .dead)):=by simp only[FK,h]
def ahZ{H H':ad}{id:Nat}{e:nE}{fr t:List V}{p:List Nat}{a b:bZ}(h:H'[id]?=some (.loop .busy none t p a b)):M7 H id (some (e,fr,H'))=some (ar (e=.bR),H'.set id (.loop (if e=.bR then .ready else .done) (F7 e) t p a b)):=by simp only[M7,h]
def V8(m0 i j:Nat)(cK H':ad):Prop:=m0<=H'.length/\∀id,id<m0->id≠i->id≠j->H'[id]?=cK[id]?
def V8.trim{m0 i j:Nat}{cK H':ad}(h:V8 m0 i j cK H'){m:Nat}(hm:m0<=m)(fr:List V):V8 m0 i j cK (trim m fr H'):=by
 rcases Uq m fr H' with e|⟨e,_⟩<;>rw[e]
 .exact h
 .exact⟨by rw[EP];have:=h.1;omega,fun id J aa aI=>by rw[mr (by omega)];exact h.2 id J aa aI⟩
def andNot(a b:Nat):Nat:=a &&& (2^64-1-b)
def aH(m0:Nat)(D:List Nat)(cK H':ad):Prop:=m0<=H'.length/\∀id,id<m0->id ∉ D->H'[id]?=cK[id]?
def aH.trim{m0:Nat}{D:List Nat}{cK H':ad}(h:aH m0 D cK H'){m:Nat}(hm:m0<=m)(fr:List V):aH m0 D cK (trim m fr H'):=by
 rcases Uq m fr H' with e|⟨e,_⟩<;>rw[e]
 .exact h
 .exact⟨by rw[EP];have:=h.1;omega,fun id J aa=>by rw[mr (by omega)];exact h.2 id J aa⟩
def aH.refl(D:List Nat)(H:ad):aH H.length D H H:=⟨cq _,fun _ _ _=>rfl⟩
def aH.trans{m0 m1:Nat}{D:List Nat}{A B C:ad}(h:aH m0 D A B)(k:aH m1 D B C)(hm:m0<=m1):aH m0 D A C:=⟨jn hm k.1,fun id J aa=>(k.2 id (by omega) aa).trans (h.2 id J aa)⟩
def aH.au{m0:Nat}{D:List Nat}{A B:ad}(h:aH m0 D A B){id g:Nat}{c:List V}(ab:au A id g=some c)(J:id<m0)(aa:id ∉ D):au B id g=some c:=by
 unfold Go.ea.au at ab |-;rw[h.2 id J aa];exact ab
def aH.mono{m0:Nat}{D jJ:List Nat}{A B:ad}(h:aH m0 D A B){m1:Nat}(hm:m1<=m0)(d':∀id,id<m1->id∈D->id∈jJ):aH m1 jJ A B:=⟨by have:=h.1;omega,fun id J aa=>h.2 id (by omega) fun af=>aa (d' id J af)⟩
def Ext.d{A B:ad}(h:Ext A B)(D:List Nat):aH A.length D A B:=⟨h.le,fun id J _=>h.get J⟩
def aig(H:ad)(z:List V)(p:List (Nat × Nat))(ps:List (Nat × b0))(vs:List V):hx H (.build z p ps) (some vs)=(lC (p[·]?) z (ps.map fun q=>(q.1,aV vs q.2))).map .agg:=by
 simp only[hx,bf]
 grind
def aI3:=ba @aL3 (ba @aKs (ba @aTi (ba @aza (ba @aNi (ba @ayI @aig)))))
def Gm{w:Nat}:∀(R:List (List V)),(∀r∈R,r.length=w)->R.flatten.length=R.length*w:=by
 intro R
 induction R with
 |nil=>intro _;simp
 |cons r R aF=>
   grind
def aHp{w:Nat}:∀(R:List (List V)),(∀r∈R,r.length=w)->∀(i:Nat) (r:List V),R[i]?=some r->(R.flatten.drop (i*w)).take w=r:=by
 intro R
 induction R with
 |nil=>simp_all
 |cons s R aF=>
   intro h i r ak;have ai:=h s hJ;cases i with
   |zero=>
     simp_all
   |succ i=>
     simp only[ze]at ak
     rw[GY,show(i+1)*w=s.length+i*w by grind,JU,BR (by omega),dB,Nat.add_sub_cancel_left]
     simp_all
structure lJ (w:Nat) (H:ad) (v:V) (R:List (List V)):Prop where
 el:elems H w v=some (R.length,R.flatten)
 len:oc H .s v=some (.s (.int .i64 R.length))
 one:v.one=true
 at':∀(i:Nat) (r:List V),R[i]?=some r->∃a,kB w v (.s (.int .i64 i))=some a/\fa H true w a=some (.agg r)/\∀(o:Nat) (x:V),r[o]?=some x->∃b,BA o a=some b/\fa H false 1 b=some x
def lJ.nil(w:Nat)(H:ad):lJ w H cm []:=⟨rfl,rfl,rfl,fun i r h=>by simp at h⟩
theorem anh{r:List V}{o:Nat}{x:V}(h:r[o]?=some x):(r.drop o).take 1=[x]:=by
 obtain⟨aX,rfl⟩:=dQ.1 h;rw[mF aX];rfl
def lJ.dc{w:Nat}(H:ad){R:List (List V)}(cP:∀r∈R,r.length=w):lJ w H (.dc R w) R:=by
 refine⟨by simp[elems],rfl,rfl,fun i r h=>⟨.eu r,?_,?_,fun o x af=>⟨.eu (r.drop o),?_,?_⟩⟩⟩
 .rw[aeo,bE ⟨by omega,rfl⟩,s7,h]
  rfl
 .have:=cP r (ib h)
  rw[Vf,Hk (by omega),bE this,X4]
 .rw[arf,bE (by grind)]
 .rw[Vf,anh af,bE (by rfl),O7]
def lJ.aZ{w:Nat}{H:ad}{id g:Nat}{R:List (List V)}(ab:au H id g=some R.flatten)(cP:∀r∈R,r.length=w):lJ w H (.aZ id g 0 R.length w) R:=by
 have aq:=Gm R cP;refine⟨?_,rfl,rfl,fun i r h=>?_⟩
 .simp only[elems,eW,ab,nR,<- aq,xD]
 .have ak:=cP r (ib h);have hi:=(dQ.1 h).1;have a8:=aHp R cP i r h;refine⟨.ref id g (0+i*w),?_,?_,fun o x af=>⟨.ref id g (0+i*w+o),rfl,?_⟩⟩
  .rw[JJ,bE ⟨by omega,by omega,rfl⟩,s7]
  .rw[h1,ab,mx];simp only[a8,ak,eW,X4]
  .have aX:=(dQ.1 af).1
   have e:(R.flatten.drop (0+i*w+o)).take 1=[x]:=by
    have aa:=anh af
    rw[<- a8,List.drop_take,Df,List.take_take,Nat.min_eq_left (by omega)]at aa
    rw[mx];exact aa
   rw[h1,ab];simp only[e,jd,eW,O7]
def c1(m w:Nat)(H:ad)(v:V)(R:List (List V)):Prop:=(∀r∈R,r.length=w)/\((R=[]/\v=cm)\/∃id g,v=.aZ id g 0 R.length w/\au H id g=some R.flatten/\m<=id)
def c1.start(m w:Nat)(H:ad):c1 m w H cm []:=⟨fun r h=>by simp at h,.inl ⟨rfl,rfl⟩⟩
def c1.rd{m w:Nat}{H:ad}{v:V}{R:List (List V)}(h:c1 m w H v R):lJ w H v R:=by
 obtain⟨cP,⟨rfl,rfl⟩|⟨id,g,rfl,ab,_⟩⟩:=h
 .exact lJ.nil w H
 .exact lJ.aZ ab cP
def c1.cD{m w:Nat}{H H':ad}{v:V}{R:List (List V)}(h:c1 m w H v R)(an:∀id g n,v=.aZ id g 0 n w->H'[id]?=H[id]?):c1 m w H' v R:=by
 obtain⟨cP,h|⟨id,g,rfl,ab,hm⟩⟩:=h
 .exact⟨cP,.inl h⟩
 .refine⟨cP,.inr ⟨id,g,rfl,?_,hm⟩⟩;unfold au at ab |-
  simp_all
def c1.lt{m w:Nat}{H:ad}{v:V}{R:List (List V)}(h:c1 m w H v R):∀id g n,v=.aZ id g 0 n w->id<H.length:=by
 obtain⟨_,⟨_,rfl⟩|⟨id,g,rfl,ab,hm⟩⟩:=h
 .intro id g n e;cases e
 .intro gw g' n e;cases e;exact iC ab
def c1.append{m w:Nat}{H:ad}{v:V}{R:List (List V)}(h:c1 m w H v R){base bytes:Nat}(ah:base<=m)(hm:m<=H.length){S:List (List V)}(fl:∀r∈S,r.length=w)(bd:S≠[]){x:V}(af:elems H w x=some (S.length,S.flatten))(aX:S.flatten.all V.one=true)(ai:(R.length+S.length)*bytes<=2^47):
 ∃gx H',h5 H base w bytes v x=some (gx,H')/\c1 m w H' gx (R++S)/\H.length<=H'.length/\(∀id,id<H.length->(∀g n,v≠.aZ id g 0 n w)->H'[id]?=H[id]?):=by
 have aJ:¬S.length=0:=fun e=>bd (lX e);have aYc:∀r∈R++S,r.length=w->r.length=w:=fun _ _ e=>e
 obtain⟨cP,⟨rfl,rfl⟩|⟨id,g,rfl,ab,hid⟩⟩:=h
 .have hV:S.length*bytes<=2^47:=by simpa using ai
  refine⟨.aZ H.length 0 0 S.length w,H++[.cells 0 S.flatten],?_,⟨?_,.inr ⟨H.length,0,by simp,?_,hm⟩⟩,by simp,fun id hid _=>bi hid⟩
  .simp only[h5,af,aX,eW,cm,aJ,hp,hV]
  .simpa using fl
  .rw[dB];exact cQ H 0 _
 .have b8:=iC ab
  have jV:base<=id:=by omega
  have aq:=Gm R cP
  refine⟨.aZ id (g+1) 0 (R.length+S.length) w,H.set id (.cells (g+1) (R.flatten++S.flatten)),?_,⟨?_,.inr ⟨id,g+1,by simp,?_,hid⟩⟩,by simp,fun gw aHQ eS=>?_⟩
  .have aa:0+R.length*w<=R.flatten.length:=by omega
   simp only[h5,af,aX,eW,wG,jV,ab,aa,aJ,hp,ai,nR]
   grind
  .grind
  .rw[y8];exact EX ab _
  simp_all
def c1.aTt{m w L:Nat}{H:ad}{v:V}{R:List (List V)}(h:c1 m w H v R)(bd:R≠[])(cU:L<=m){fr:List V}(av:v∈fr):trim L fr H=H:=by
 obtain⟨_,⟨rfl,_⟩|⟨id,g,rfl,ab,hid⟩⟩:=h
 .grind
 .rcases zH L fr H with e|⟨_,hu⟩
  .exact e
  .have:=hu _ av;simp only[ir,l8]at this;omega
def c1.zH{m w L:Nat}{H:ad}{v:V}{R:List (List V)}(h:c1 m w H v R)(cU:L<=m){fr:List V}(av:v∈fr):R=[]/\v=cm\/trim L fr H=H:=by
 obtain⟨_,h|⟨id,g,rfl,ab,hid⟩⟩:=h
 .exact .inl h
 .rcases Go.ea.zH L fr H with e|⟨_,hu⟩
  .exact .inr e
  .have:=hu _ av;simp only[ir,l8]at this;omega
def YD(m:Nat)(fr:List V)(H:ad){id:Nat}(h:id<m):(trim m fr H)[id]?=H[id]?:=by
 rcases Go.ea.zH m fr H with e|⟨e,_⟩
 .rw[e]
 simp_all
theorem axM(m:Nat)(fr:List V)(H:ad):trim m fr H=H\/(trim m fr H=H.take m/\(∀v∈fr,ir m 8 v=true)/\∀id g c,id<m->au H id g=some c->∀v∈c,ir m 8 v=true):=by
 unfold trim;split
 .rename_i h;rw[dR,fp,fp]at h;refine .inr ⟨rfl,h.1,fun id g c hid ab v av=>?_⟩;unfold au at ab;cases aX:H[id]? with
  |none=>simp_all
  |some o=>
    rw[aX]at ab
    have hm:o∈H.take m:=ib (i:=id) (by simp_all)
    have:=h.2 o hm;cases o with
    |cells g2 cZ=>
      dsimp only at ab;split at ab
      .cases ab;simp only[aM.under,fp]at this;exact this v av
      .cases ab
    |map _=>cases ab
    |loop _ _ _ _ _ _=>cases ab
    |dead=>cases ab
    |bytes _ _=>cases ab
 .exact .inl rfl
theorem aPP(H:ad)(b:ByteArray)(k k2:IntKind)(l h:Int):hx H (.sk (.t 0) (some (.t 1)) (some (.t 2))) (some [.s (.string b),.s (.int k l),.s (.int k2 h)])=if 0<=l/\l<=h/\h<=b.size then some (.s (.string (b.extract l.toNat h.toNat)))else none:=by
 show(if 0<=l/\l<=h/\h<=(b.size:Int)then some (V.s (.string (b.extract l.toNat h.toNat)),H)else none).map (·.1)=_
 split<;>rfl
def extract_eq(b:ByteArray)(at' n:Nat):b.extract at' (at'+n)=⟨((b.data.toList.drop at').take n).toArray⟩:=by
 apply ByteArray.ext;apply tf;rw[ByteArray.data_extract,Array.toList_extract,List.extract_eq_drop_take];simp
theorem WZ(t u w:l2)(fr:List V)(H:ad):ky [t,u,w] fr H=match kJ fr H t,kJ fr H u,kJ fr H w with|some x,some y,some z=>some (.bQ [x,y,z])|_,_,_=>none:=by
 simp only[ky,rA,NT];cases kJ fr H t<;>cases kJ fr H u<;>cases kJ fr H w<;>rfl
theorem TO(H:ad)(g:Bool)(n:Nat)(a:V):iu H g n a=fa H g n a:=rfl
theorem abR(H:ad)(f:Nat)(a b:V):hx H (.ez f [] [.t 0,.t 1]) (some [a,b])=some (.fn f [] [a,b]):=rfl
def Fu:List V->Nat->ad->Option (V × ad):=fun vs _ H=>match vs with
 | [.s (.string b),.s (.int .u8 c)]=>some (.s (.int .i64 (Lib.indexByte b.data.toList c.toNat.toUInt8)),H)
 |_=>none
def Cs:List V->Nat->ad->Option (V × ad):=fun vs _ H=>match vs with
 | [.s (.string b)]=>if b.size<=18 then(Lib.atoi b.data.toList).map fun n=>(.bQ [.s (.int .i64 n),.s .nilIface],H)else none
 |_=>none
section
variable {P:Program}
def aBC{pure':fA}{k:Nat}(k6:∀xs w,(callFunc k xs).run P w=.ok (.enter k xs) w)(ai:∀(s:ByteArray) (c:Int) (w:World),Calls P k #[.string s,.int .u8 c] w fun e w'=>e=.returned (.int .i64 (Lib.indexByte s.data.toList c.toNat.toUInt8))/\w'=w):iP P pure' k (.hP Fu):=by
 refine⟨k6,fun vs base H r H' a8=>?_⟩;unfold Fu at a8;split at a8
 .rename_i b c;cases a8;refine⟨jC.refl _ _,fun μ ae w cs bm db n=>?_⟩;obtain⟨J,aa⟩:=db
  match cs,J with
  | [x,y],_=>
    have aE:=ei (aa 0 _ x rfl rfl);have aU:=ei (aa 1 _ y rfl rfl);subst aE aU;refine callsIn_wide.2 ((ai b c w).mono ?_);rintro e w' ⟨rfl,rfl⟩;exact⟨_,μ,ae,rfl,.s _,c8.refl bm⟩
 .cases a8
def aA9{α:Type}(x:α)(f:α->α):∀l:List α,(l++[x]).modify l.length f=l++[f x]
 | []=>rfl
 |y::l=>by
   have:=aA9 x f l
   simp_all
def aYD{α:Type}(a:Array α)(x:α)(f:α->α):(a.push x).modify a.size f=a.push (f x):=by
 grind
def aOz{aK:eX}{μ:cp}{ae:Nat->Prop}{w:World}{H:ad}(h:cE aK μ ae w H)(e:TypeId)(s:ByteArray):c8 aK μ ae w H μ ae (Lib.bytesWorld w e s) H:=by
 refine aLR [.cells (Lib.bytesCells w e s) e ((Lib.bytesCells w e s).size,(Lib.bytesCells w e s).size+1)] w _ h ?_ rfl rfl rfl;unfold Lib.bytesWorld World.freeze
 rw[bV (by decide)]
 obtain⟨o,aX⟩:∃o,Obj.cells (Lib.bytesCells w e s) e=o:=⟨_,rfl⟩;have ay:(w.drew.alloc o).heap=w.heap.push o:=rfl
 grind
def aWr{pure':fA}{k:Nat}{t:TypeId}(k6:∀xs w,(callFunc k xs).run P w=.ok (.enter k xs) w)(ai:∀(s:ByteArray) (n:Int),s.size<=18->Lib.atoi s.data.toList=some n->∀(w:World),Calls P k #[.string s] w fun e w'=>e=.returned (.tuple #[.int .i64 n,.nilIface])/\∃b,w'=Lib.bytesWorld w t b):iP P pure' k (.hP Cs):=by
 refine⟨k6,fun vs base H r H' a8=>?_⟩;unfold Cs at a8;split at a8
 .rename_i b;split at a8
  .rename_i ah;cases aJ:Lib.atoi b.data.toList with
   |none=>simp_all
   |some n=>
     rw[aJ]at a8;cases a8;refine⟨jC.refl _ _,fun μ ae w cs bm db m=>?_⟩;obtain⟨J,aa⟩:=db
     match cs,J with
     | [x],_=>
       have aE:=ei (aa 0 _ x rfl rfl);subst aE;refine callsIn_wide.2 ((ai b n ah aJ w).mono ?_);rintro e w' ⟨rfl,s,rfl⟩;refine⟨_,μ,ae,rfl,?_,aOz bm t s⟩;refine .bQ _ _ rfl fun i a c aO ab=>?_
       match i with
       |0=>cases aO;cases ab;exact .s _
       |1=>cases aO;cases ab;exact .s _
       |i+2=>simp at aO
  .cases a8
 .cases a8
end
def BH{S T:Type}(n:Nat)(P:Nat->S->Prop)(X:Nat->S->T)(step:∀i s,i<n->P i s->∃fW,X i s=X (i+1) fW/\P (i+1) fW):∀i s,i<=n->P i s->∃fW,X i s=X n fW/\P n fW:=by
 have key:∀d i s,i+d=n->P i s->∃fW,X i s=X n fW/\P n fW:=by
  intro d
  induction d with
  |zero=>
    grind
  |succ d aF=>
    grind
 exact fun i s hi ay=>key (n-i) i s (by omega) ay
def aTD{T:Type}(n:Nat)(X:Nat->T)(step:∀i,i<n->X i=X (i+1)):∀i,i<=n->X i=X n:=by
 intro i hi;obtain⟨_,h,_⟩:=BH (S:=Unit) n (fun _ _=>True) (fun i _=>X i) (fun i s h _=>⟨(),step i h,trivial⟩) i () hi trivial;exact h
def abK{T:Type}(n:Nat)(p:Nat->Bool)(X:Nat->T)(step:∀i,i<n->p i=false->X i=X (i+1)):(∀i,i<n->p i=false)/\X 0=X n\/∃i,i<n/\p i=true/\(∀j,j<i->p j=false)/\X 0=X i:=by
 have key:∀d i,i+d=n->(∀j,j<i->p j=false)->X 0=X i->(∀i,i<n->p i=false)/\X 0=X n\/∃i,i<n/\p i=true/\(∀j,j<i->p j=false)/\X 0=X i:=by
  intro d
  induction d with
  |zero=>
    simp_all
  |succ d aF=>
    grind
 simp_all
def getD_some{α:Type}{l:List α}{k:Nat}{x:α}(h:l[k]?=some x)(d:α):l.getD k d=x:=by grind
def q6{α:Type}{l:List α}{k:Nat}(h:k<l.length)(d:α):l[k]?=some (l.getD k d):=by simp_all
section
variable {It:Type} [DecidableEq It]
end
def jB{n:Nat}(h:n<2^62):IntKind.i64.wrap ((n:Int)+1)=((n+1:Nat):Int):=by rw[IntKind.wrap_i64];omega
def aFj(a b:ByteArray):Instr.sameNow .string (.string a) (.string b)=some (decide (a=b)):=by
 have h:(a==b)=decide (a=b):=by
  by_cases e:a=b
  .subst e;rw[Mj rfl,beq_toListBytes];simp
  .rw[Dm e,beq_toListBytes];rw[kp];exact fun h=>e (toList_inj h)
 simp only[Instr.sameNow,h]
def aLU{b1:Nat->Option cz}{id base:Nat}{H H1:ad}{args t fr cw:List V}{p:List Nat}{a b:bZ}{r:V × ad}(ah:base<=id)(bm:H[id]?=some (.loop .ready none t p a b))(ai:Bf p args t=some fr)(aO:aL (aR b1) aN base a fr H=some (.bR,cw,H1))(k0:H1[id]?=some (.loop .ready none t p a b))(h:M7 H1 id (aL (aR b1) aN base b cw (H1.set id (.loop .busy none t p a b)))=some r):aR b1 (.ff id) args base H=some r:=by
 refine oD ?_;simp only[iT,bE ah,bm,ai,aO,k0];unfold M7 at h;omega
def N0{H H':ad}(k:Ext H H'){b:V}{g:Bool}{n:Nat}{x:V}(af:fa H g n b=some x):fa H' g n b=some x:=by
 cases b with
 |ref i j o=>
   rw[h1]at af |-;cases ab:au H i j with
   |none=>simp_all
   |some c=>rw[ab]at af;rw[b7 ab k];exact af
 |_=>exact af
def lJ.aAq{w:Nat}{H H':ad}{v:V}{R:List (List V)}(h:lJ w H v R)(k:Ext H H'):lJ w H' v R:=by
 refine⟨?_,?_,h.one,?_⟩
 .have he:=h.el;unfold elems at he |-;split<;>simp only at he |-
  all_goals first|exact he|skip
  all_goals
   split at he
   .rename_i e;rw[bE e];cases ab:au H _ _ with
    |none=>rw[ab]at he;cases he
    |some c=>rw[ab]at he;rw[b7 ab k];exact he
   .cases he
 .have aq:=h.len;have he:=h.el;unfold elems at he
  split at he<;>simp only[oc]at aq |-<;>first|exact aq|cases he
 .intro i r ak;obtain⟨a,J,aa,aI⟩:=h.at' i r ak
  have gl:∀(b:V) (g:Bool) (n:Nat) (x:V),fa H g n b=some x->fa H' g n b=some x:=by
   intro b g n x af;cases b with
   |ref i j o=>
     rw[h1]at af |-;cases ab:au H i j with
     |none=>simp_all
     |some c=>rw[ab]at af;rw[b7 ab k];exact af
   |_=>exact af
  grind
def aQL{S T:Type}(n:Nat)(p:Nat->Bool)(P:S->Prop)(X:Nat->S->T)(step:∀i s,i<n->p i=false->P s->∃fW,X i s=X (i+1) fW/\P fW):∀s,P s->((∀i,i<n->p i=false)/\∃fW,X 0 s=X n fW/\P fW)\/∃i fW,i<n/\p i=true/\(∀j,j<i->p j=false)/\X 0 s=X i fW/\P fW:=by
 have key:∀d i lk s,i+d=n->(∀j,j<i->p j=false)->X 0 lk=X i s->P s->((∀i,i<n->p i=false)/\∃fW,X 0 lk=X n fW/\P fW)\/∃i fW,i<n/\p i=true/\(∀j,j<i->p j=false)/\X 0 lk=X i fW/\P fW:=by
  intro d
  induction d with
  |zero=>
    grind
  |succ d aF=>
    intro i lk s hi ay af ai;cases EF:p i with
    |true=>grind
    |false=>
      grind
 grind
section
variable {It:Type} [DecidableEq It]
end
end Go.ea
set_option maxRecDepth 100000
namespace Go.Proofs.YtngfpadeebpoeaaGreatDoor
open Go.ea
abbrev aA(b:ByteArray):V:=.s (.string b)
abbrev U(n:Int):V:=.s (.int .i64 n)
structure bI where
 op:Int
 d:ByteArray
 a:ByteArray
 b:ByteArray
 k:Int
 f:ByteArray
 xs:List ByteArray
 ls:List ByteArray
structure ey where
 label:ByteArray
 code:List bI
structure cT where
 name:ByteArray
 ps:List ByteArray
 blocks:List ey
def fE:bI:=⟨0,⟨#[]⟩,⟨#[]⟩,⟨#[]⟩,0,⟨#[]⟩,[],[]⟩
def zj:ey:=⟨⟨#[]⟩,[]⟩
def u9:cT:=⟨⟨#[]⟩,[],[]⟩
def bg(x:bI)(a' lv:V):List V:=[.s (.int .u8 x.op),aA x.d,aA x.a,aA x.b,.s (.int .i64 x.k),aA x.f,a',lv]
def fc(H:ad)(r:List V)(x:bI):Prop:=∃a' lv,r=bg x a' lv/\Rd H a' (x.xs.map aA)/\mq a'/\Rd H lv (x.ls.map aA)/\mq lv/\x.xs.length<2^63/\x.ls.length<2^63
def fb{α:Type}(w:Nat)(P:ad->List V->α->Prop)(H:ad)(v:V)(l:List α):Prop:=∃R:List (List V),lJ w H v R/\R.length=l.length/\l.length<2^63/\∀(i:Nat) (x:α),l[i]?=some x->∃r:List V,R[i]?=some r/\P H r x
def lx(H:ad)(r:List V)(b:ey):Prop:=∃bA,r=[aA b.label,bA]/\fb 8 fc H bA b.code
def p6(H:ad)(r:List V)(f:cT):Prop:=∃pv bv,r=[aA f.name,pv,bv]/\Rd H pv (f.ps.map aA)/\mq pv/\f.ps.length<2^63/\fb 2 lx H bv f.blocks
abbrev iF:ad->V->List cT->Prop:=fb 3 p6
def fc.ext{H H':ad}{r:List V}{x:bI}(h:fc H r x)(k:Ext H H'):fc H' r x:=by
 obtain⟨a',lv,J,aa,aI,bl,cO,fQ⟩:=h;exact⟨a',lv,J,aa.ext k,aI,bl.ext k,cO,fQ⟩
def fb.ext{α:Type}{w:Nat}{P:ad->List V->α->Prop}(aC:∀{H H' r x},P H r x->Ext H H'->P H' r x){H H':ad}{v:V}{l:List α}(h:fb w P H v l)(k:Ext H H'):fb w P H' v l:=by
 obtain⟨R,J,aa,aI,bl⟩:=h
 exact⟨R,J.aAq k,aa,aI,fun i x af=>by obtain⟨r,bP,ca⟩:=bl i x af;exact⟨r,bP,aC ca k⟩⟩
def lx.ext{H H':ad}{r:List V}{b:ey}(h:lx H r b)(k:Ext H H'):lx H' r b:=by
 obtain⟨bA,J,aa⟩:=h;exact⟨bA,J,fb.ext (P:=fc) fc.ext aa k⟩
def p6.ext{H H':ad}{r:List V}{f:cT}(h:p6 H r f)(k:Ext H H'):p6 H' r f:=by
 obtain⟨pv,bv,J,aa,aI,bl,cO⟩:=h;exact⟨pv,bv,J,aa.ext k,aI,bl,fb.ext (P:=lx) lx.ext cO k⟩
def iF.ext{H H':ad}{v:V}{fs:List cT}(h:iF H v fs)(k:Ext H H'):iF H' v fs:=fb.ext (P:=p6) p6.ext h k
def fb.len{α:Type}{w:Nat}{P:ad->List V->α->Prop}{H:ad}{v:V}{l:List α}(h:fb w P H v l):oc H .s v=some (.s (.int .i64 l.length)):=by
 obtain⟨R,J,aa,_⟩:=h;rw[J.len,aa]
def fb.one{α:Type}{w:Nat}{P:ad->List V->α->Prop}{H:ad}{v:V}{l:List α}(h:fb w P H v l):v.one=true:=by
 obtain⟨R,J,_⟩:=h;exact J.one
def fb.l4{α:Type}{w:Nat}{P:ad->List V->α->Prop}{H:ad}{v:V}{l:List α}(h:fb w P H v l){i:Nat}{x:α}(af:l[i]?=some x):∃a r,kB w v (.s (.int .i64 i))=some a/\P H r x/\(∀H',Ext H H'->fa H' true w a=some (.agg r))/\∀(o:Nat) (y:V),r[o]?=some y->∃b,BA o a=some b/\∀H',Ext H H'->fa H' false 1 b=some y:=by
 obtain⟨R,J,aa,aI,bl⟩:=h;obtain⟨r,bP,ca⟩:=bl i x af;obtain⟨a,bw,a2,a3⟩:=J.at' i r bP
 exact⟨a,r,bw,ca,fun H' k=>N0 k a2,fun o y bC=>by obtain⟨b,fe,eI⟩:=a3 o y bC;exact⟨b,fe,fun H' k=>N0 k eI⟩⟩
def ui{H:ad}{v:V}{l:List ByteArray}(h:Rd H v (l.map aA))(hw:mq v){k:Nat}(an:k<l.length):∃a,kB 1 v (.s (.int .i64 k))=some a/\fa H false 1 a=some (.s (.string (l.getD k ⟨#[]⟩))):=
 h.at' hw (by rw[ut,q6 an ⟨#[]⟩];rfl)
def so{H:ad}{v:V}{l:List ByteArray}(h:Rd H v (l.map aA)):oc H .s v=some (.s (.int .i64 l.length)):=by
 have:=h.len
 rwa[pY]at this
def u5{H:ad}{id g:Nat}{w:V}(h:au H id g=some [w]):fa H false 1 (.ref id g 0)=some w:=by
 simp only[h1,h,nR,dK,dj,jd,eW,O7]
def amH(fr:List V)(H:ad):ky [] fr H=some (.bQ []):=by simp[ky]
def adb:mf:=.st [.int .u8,.str,.str,.str,.int .i64,.str,.aZ .str,.aZ .str]
def adP:mf:=.st [.str,.aZ adb]
def aah:mf:=.st [.str,.aZ .str,.aZ adP]
def aks:mf:=.st [.aZ aah]
def SE{v:List V}(h:lK (.aZ .str) v):∃u,v=[u]/\∃l:List ByteArray,(∀H,Rd H u (l.map aA))/\mq u/\l.length<2^63:=by
 rcases h with rfl|⟨es,rfl,aq,he⟩
 .exact⟨cm,rfl,[],fun H=>Rd.nil H,trivial,by decide⟩
 .have:∀es:List (List V),(∀x∈es,lK .str x)->∃l:List ByteArray,es=(l.map aA).map fun x=>[x]:=by
   intro es
   induction es with
   |nil=>intro _;exact⟨[],rfl⟩
   |cons e es aF=>
     intro h;obtain⟨b,rfl,_⟩:=h e hJ;obtain⟨l,rfl⟩:=aF fun x af=>h x (d9 _ af);exact⟨b::l,rfl⟩
  obtain⟨l,rfl⟩:=this es he;refine⟨_,rfl,l,fun H=>Rd.dc H _,?_,?_⟩
  .intro e he;rw[wJ]at he;obtain⟨x,_,rfl⟩:=he;rfl
  .simp only[pY,maxLen]at aq;omega
def aGE{v:List V}(h:lK adb v):v.length=8/\∃x:bI,∀H,fc H v x:=by
 have dn:=lK.len _ h;refine⟨dn,?_⟩;obtain⟨_,_,rfl,⟨o,rfl,_⟩,_,_,rfl,⟨d,rfl,_⟩,_,_,rfl,⟨a,rfl,_⟩,_,_,rfl,⟨b,rfl,_⟩,_,_,rfl,⟨n,rfl,_⟩,_,_,rfl,⟨f,rfl,_⟩,_,_,rfl,J,_,_,rfl,aa,rfl⟩:=h;obtain⟨a',rfl,l,bj,aT,a1⟩:=SE J;obtain⟨lv,rfl,aQ7,bP,ca,dw⟩:=SE aa;exact⟨⟨o,d,a,b,n,f,l,aQ7⟩,fun H=>⟨a',lv,rfl,bj H,aT,bP H,ca,a1,dw⟩⟩
def Ve{α:Type}{w:Nat}{t:mf}{P:ad->List V->α->Prop}(hw:∀{v:List V},lK t v->v.length=w/\∃x:α,∀H,P H v x){v:List V}(h:lK (.aZ t) v)(dk:t.width=w):∃u,v=[u]/\∃l:List α,∀H,fb w P H u l:=by
 rcases h with rfl|⟨es,rfl,aq,he⟩
 .exact⟨_,rfl,[],fun H=>⟨[],lJ.nil w H,rfl,Nat.two_pow_pos 63,fun i x af=>by simp at af⟩⟩
 .have:∀es:List (List V),(∀x∈es,lK t x)->∃l:List α,l.length=es.length/\∀(i:Nat) (x:α),l[i]?=some x->∃r:List V,es[i]?=some r/\∀H,P H r x:=by
   intro es
   induction es with
   |nil=>intro _;exact⟨[],rfl,fun i b ah=>by simp at ah⟩
   |cons e es aF=>
     intro h;obtain⟨l,k1,k2⟩:=aF fun x af=>h x (d9 _ af);obtain⟨_,b,fe⟩:=hw (h e hJ)
     refine⟨b::l,by simp[k1],fun i c ab=>?_⟩
     cases i with
     |zero=>rw[EG]at ab;obtain rfl:=kI ab;exact⟨e,rfl,fe⟩
     |succ i=>rw[ze]at ab;obtain⟨r,bP,ca⟩:=k2 i c ab;exact⟨r,by rw[ze];exact bP,ca⟩
  obtain⟨l,k1,k2⟩:=this es he
  refine⟨_,rfl,l,fun H=>⟨es,?_,k1.symm,?_,fun i b ah=>by obtain⟨r,bP,ca⟩:=k2 i b ah;exact⟨r,bP,ca H⟩⟩⟩
  .rw[dk];exact lJ.dc H fun r ak=>(hw (he r ak)).1
  .simp only[maxLen]at aq;omega
def aMi{v:List V}(h:lK adP v):v.length=2/\∃b:ey,∀H,lx H v b:=by
 have dn:=lK.len _ h;refine⟨dn,?_⟩;obtain⟨_,_,rfl,⟨yu,rfl,_⟩,_,_,rfl,aa,rfl⟩:=h;obtain⟨bA,rfl,l,bj⟩:=Ve (P:=fc) aGE aa rfl;exact⟨⟨yu,l⟩,fun H=>⟨bA,rfl,bj H⟩⟩
def aJc{v:List V}(h:lK aah v):v.length=3/\∃f:cT,∀H,p6 H v f:=by
 have dn:=lK.len _ h;refine⟨dn,?_⟩;obtain⟨_,_,rfl,⟨nm,rfl,_⟩,_,_,rfl,J,_,_,rfl,aa,rfl⟩:=h;obtain⟨pv,rfl,ps,cn,dP,gn⟩:=SE J;obtain⟨bv,rfl,l,bj⟩:=Ve (P:=lx) aMi aa rfl;exact⟨⟨nm,ps,l⟩,fun H=>⟨pv,bv,rfl,cn H,dP,gn,bj H⟩⟩
def aB2{v:List V}(h:lK aks v):∃u,V.agg v=u/\∃(cr:V) (fs:List cT),u=.agg [cr]/\∀H,iF H cr fs:=by
 obtain⟨_,_,rfl,aa,rfl⟩:=h;obtain⟨cr,rfl,l,bj⟩:=Ve (P:=p6) aJc aa rfl;exact⟨_,rfl,cr,l,rfl,bj⟩
end Go.Proofs.YtngfpadeebpoeaaGreatDoor
namespace Go.Proofs
open Go.Shelf
def Tryz.aDI:Go.Shelf.Ren:=⟨fun|137=>79|217=>127|266=>150|n=>n,fun|9=>9|5=>5|3=>3|n=>n,fun|n=>n⟩
def Tryz.aVl:Go.Proofs.Lays.n137 Tryz.prog Tryz.aDI:={
 mixed:=by kernel_rfl
 f137:=Tryz.func79.trans (dV some (by kernel_rfl))
 f217:=Tryz.func127.trans (dV some (by kernel_rfl))
 f266:=Tryz.func150.trans (dV some (by kernel_rfl))
 t3:=Tryz.underlying3
 a3:=Tryz.isAgg3
 z3:=Tryz.sizeOf3
 v3:=Tryz.zeroValue3
 t5:=Tryz.underlying5
 a5:=Tryz.isAgg5
 z5:=Tryz.sizeOf5
 v5:=Tryz.zeroValue5
 t9:=Tryz.underlying9
 a9:=Tryz.isAgg9
 z9:=Tryz.sizeOf9
 v9:=Tryz.zeroValue9 }
def Tryz.apW:Go.Shelf.Ren:=⟨fun|172=>85|244=>128|245=>129|247=>151|279=>152|280=>153|281=>154|282=>155|287=>173|316=>174|171=>53|205=>175|321=>181|322=>182|243=>116|246=>143|283=>169|284=>170|285=>171|286=>172|129=>177|317=>176|318=>178|319=>179|320=>180|337=>183|338=>184|n=>n,fun|9=>9|3=>3|75=>63|76=>64|4=>4|5=>5|167=>161|37=>59|0=>0|85=>162|2=>2|168=>164|53=>169|175=>174|46=>176|210=>179|127=>98|145=>191|143=>189|21=>21|171=>168|173=>172|212=>183|51=>184|20=>20|213=>185|232=>193|233=>194|80=>72|n=>n,fun|15=>1|16=>2|17=>3|18=>4|19=>5|n=>n⟩
def Tryz.aMp:Go.Proofs.Lays.n172 Tryz.prog Tryz.apW:={
 mixed:=by kernel_rfl
 f129:=Tryz.func177.trans (dV some (by kernel_rfl))
 f171:=Tryz.func53.trans (dV some (by kernel_rfl))
 f172:=Tryz.func85.trans (dV some (by kernel_rfl))
 f205:=Tryz.func175.trans (dV some (by kernel_rfl))
 f243:=Tryz.func116.trans (dV some (by kernel_rfl))
 f244:=Tryz.func128.trans (dV some (by kernel_rfl))
 f245:=Tryz.func129.trans (dV some (by kernel_rfl))
 f246:=Tryz.func143.trans (dV some (by kernel_rfl))
 f247:=Tryz.func151.trans (dV some (by kernel_rfl))
 f279:=Tryz.func152.trans (dV some (by kernel_rfl))
 f280:=Tryz.func153.trans (dV some (by kernel_rfl))
 f281:=Tryz.func154.trans (dV some (by kernel_rfl))
 f282:=Tryz.func155.trans (dV some (by kernel_rfl))
 f283:=Tryz.func169.trans (dV some (by kernel_rfl))
 f284:=Tryz.func170.trans (dV some (by kernel_rfl))
 f285:=Tryz.func171.trans (dV some (by kernel_rfl))
 f286:=Tryz.func172.trans (dV some (by kernel_rfl))
 f287:=Tryz.func173.trans (dV some (by kernel_rfl))
 f316:=Tryz.func174.trans (dV some (by kernel_rfl))
 f317:=Tryz.func176.trans (dV some (by kernel_rfl))
 f318:=Tryz.func178.trans (dV some (by kernel_rfl))
 f319:=Tryz.func179.trans (dV some (by kernel_rfl))
 f320:=Tryz.func180.trans (dV some (by kernel_rfl))
 f321:=Tryz.func181.trans (dV some (by kernel_rfl))
 f322:=Tryz.func182.trans (dV some (by kernel_rfl))
 f337:=Tryz.func183.trans (dV some (by kernel_rfl))
 f338:=Tryz.func184.trans (dV some (by kernel_rfl))
 t0:=Tryz.underlying0
 a0:=Tryz.isAgg0
 z0:=Tryz.sizeOf0
 v0:=Tryz.zeroValue0
 t2:=Tryz.underlying2
 a2:=Tryz.isAgg2
 z2:=Tryz.sizeOf2
 v2:=Tryz.zeroValue2
 t3:=Tryz.underlying3
 a3:=Tryz.isAgg3
 z3:=Tryz.sizeOf3
 v3:=Tryz.zeroValue3
 t4:=Tryz.underlying4
 a4:=Tryz.isAgg4
 z4:=Tryz.sizeOf4
 v4:=Tryz.zeroValue4
 t5:=Tryz.underlying5
 a5:=Tryz.isAgg5
 z5:=Tryz.sizeOf5
 v5:=Tryz.zeroValue5
 t9:=Tryz.underlying9
 a9:=Tryz.isAgg9
 z9:=Tryz.sizeOf9
 v9:=Tryz.zeroValue9
 t20:=Tryz.underlying20
 a20:=Tryz.isAgg20
 z20:=Tryz.sizeOf20
 v20:=Tryz.zeroValue20
 t21:=Tryz.underlying21
 a21:=Tryz.isAgg21
 z21:=Tryz.sizeOf21
 v21:=Tryz.zeroValue21
 t37:=Tryz.underlying59
 a37:=Tryz.isAgg59
 z37:=Tryz.sizeOf59
 v37:=Tryz.zeroValue59
 t46:=Tryz.underlying176
 a46:=Tryz.isAgg176
 z46:=Tryz.sizeOf176
 v46:=Tryz.zeroValue176
 t51:=Tryz.underlying184
 a51:=Tryz.isAgg184
 z51:=Tryz.sizeOf184
 v51:=Tryz.zeroValue184
 t53:=Tryz.underlying169
 a53:=Tryz.isAgg169
 z53:=Tryz.sizeOf169
 v53:=Tryz.zeroValue169
 t75:=Tryz.underlying63
 a75:=Tryz.isAgg63
 z75:=Tryz.sizeOf63
 v75:=Tryz.zeroValue63
 t76:=Tryz.underlying64
 a76:=Tryz.isAgg64
 z76:=Tryz.sizeOf64
 v76:=Tryz.zeroValue64
 t85:=Tryz.underlying162
 a85:=Tryz.isAgg162
 z85:=Tryz.sizeOf162
 v85:=Tryz.zeroValue162
 t127:=Tryz.underlying98
 a127:=Tryz.isAgg98
 z127:=Tryz.sizeOf98
 v127:=Tryz.zeroValue98
 t143:=Tryz.underlying189
 a143:=Tryz.isAgg189
 z143:=Tryz.sizeOf189
 v143:=Tryz.zeroValue189
 t145:=Tryz.underlying191
 a145:=Tryz.isAgg191
 z145:=Tryz.sizeOf191
 v145:=Tryz.zeroValue191
 t167:=Tryz.underlying161
 a167:=Tryz.isAgg161
 z167:=Tryz.sizeOf161
 v167:=Tryz.zeroValue161
 t168:=Tryz.underlying164
 a168:=Tryz.isAgg164
 z168:=Tryz.sizeOf164
 v168:=Tryz.zeroValue164
 t171:=Tryz.underlying168
 a171:=Tryz.isAgg168
 z171:=Tryz.sizeOf168
 v171:=Tryz.zeroValue168
 t173:=Tryz.underlying172
 a173:=Tryz.isAgg172
 z173:=Tryz.sizeOf172
 v173:=Tryz.zeroValue172
 t175:=Tryz.underlying174
 a175:=Tryz.isAgg174
 z175:=Tryz.sizeOf174
 v175:=Tryz.zeroValue174
 t210:=Tryz.underlying179
 a210:=Tryz.isAgg179
 z210:=Tryz.sizeOf179
 v210:=Tryz.zeroValue179
 t212:=Tryz.underlying183
 a212:=Tryz.isAgg183
 z212:=Tryz.sizeOf183
 v212:=Tryz.zeroValue183
 t213:=Tryz.underlying185
 a213:=Tryz.isAgg185
 z213:=Tryz.sizeOf185
 t232:=Tryz.underlying193
 a232:=Tryz.isAgg193
 z232:=Tryz.sizeOf193
 v232:=Tryz.zeroValue193
 t233:=Tryz.underlying194
 a233:=Tryz.isAgg194
 z233:=Tryz.sizeOf194
 v233:=Tryz.zeroValue194
 g15:=by kernel_rfl
 g16:=by kernel_rfl
 g17:=by kernel_rfl
 g18:=by kernel_rfl
 g19:=by kernel_rfl }
end Go.Proofs
set_option maxRecDepth 100000
namespace Go.Proofs.YtngfpadeebpoeaaGreatDoor
open Go.ea
abbrev aUH(v:V):Prop:=mq v
def p9.NN{m:Nat}{H:ad}{v:V}{l:List V}(h:p9 m H v l):aUH v:=by
 rcases h with⟨_,rfl|rfl⟩|⟨_,_,_,rfl,_⟩<;>trivial
abbrev aPq(w:Nat)(H:ad)(v:V)(R:List (List V)):Prop:=lJ w H v R
def c1.rx{m w:Nat}{H:ad}{v:V}{R:List (List V)}(h:c1 m w H v R):aPq w H v R:=h.rd
end Go.Proofs.YtngfpadeebpoeaaGreatDoor
namespace Go.ea.Tok
def b2(p:UInt8->Bool):List UInt8->Nat
 | []=>0
 |c::l=>if p c then b2 p l+1 else 0
def zO(p:UInt8->Bool):∀l,b2 p l<=l.length
 | []=>cq _
 |c::l=>by
   unfold b2;split
   .exact Nat.succ_le_succ (zO p l)
   .exact gY _
def blank(c:UInt8):Bool:=c==32||c==9||c==13||c==10
def letter(c:UInt8):Bool:=decide (97<=c.toNat)&&decide (c.toNat<=122)||decide (65<=c.toNat)&&decide (c.toNat<=90)||c==95
def digit(c:UInt8):Bool:=decide (48<=c.toNat)&&decide (c.toNat<=57)
def within(c:UInt8):Bool:=letter c||digit c||c==46
def other(c:UInt8):Bool:=c != 10
def sign(c:UInt8):Bool:=c==61||c==44||c==58||c==40||c==41||c==123||c==125||c==91||c==93
structure T where
 kind:Nat
 text:List UInt8
 n:Nat
 line:Nat
 rR:Nat
 deriving DecidableEq,Inhabited
inductive Out where
 |done (ao:List T)
 |bad (e line rR:Nat)
 deriving DecidableEq,Inhabited
def Out.cons(t:T):Out->Out
 |.done ao=>.done (t::ao)
 |.bad e a b=>.bad e a b
def val(l:List UInt8):Nat:=l.foldl (fun n c=>n*10+(c.toNat-48)) 0
def lex(l:List UInt8)(bo bB:Nat):Out:=
 match l with
 | []=>.done [⟨4,[],0,bo,bB⟩]
 |c::l=>
   if blank c then(if c=10 then lex l (bo+1) 1 else lex l bo (bB+1))
   else if c=59 then lex (l.drop (b2 other l)) bo (bB+(b2 other l+1))
   else if letter c then(lex (l.drop (b2 within l)) bo (bB+(b2 within l+1))).cons ⟨1,c::l.take (b2 within l),0,bo,bB⟩
   else if digit c then
    if 9<b2 digit l+1\/(1<b2 digit l+1/\c=48)\/b2 digit l<b2 within l then .bad 31 bo bB
    else(lex (l.drop (b2 digit l)) bo (bB+(b2 digit l+1))).cons ⟨2,c::l.take (b2 digit l),val (c::l.take (b2 digit l)),bo,bB⟩
   else if sign c then(lex l bo (bB+1)).cons ⟨3,[c],0,bo,bB⟩
   else .bad 30 bo bB
termination_by l.length
decreasing_by all_goals simp only[c3,lm];omega
def lex_nil(bo bB:Nat):lex [] bo bB=.done [⟨4,[],0,bo,bB⟩]:=by rw[lex]
def qy(c:UInt8)(l:List UInt8)(bo bB:Nat):lex (c::l) bo bB=
 if blank c then(if c=10 then lex l (bo+1) 1 else lex l bo (bB+1))
 else if c=59 then lex (l.drop (b2 other l)) bo (bB+(b2 other l+1))
 else if letter c then(lex (l.drop (b2 within l)) bo (bB+(b2 within l+1))).cons ⟨1,c::l.take (b2 within l),0,bo,bB⟩
 else if digit c then
  if 9<b2 digit l+1\/(1<b2 digit l+1/\c=48)\/b2 digit l<b2 within l then .bad 31 bo bB
  else(lex (l.drop (b2 digit l)) bo (bB+(b2 digit l+1))).cons ⟨2,c::l.take (b2 digit l),val (c::l.take (b2 digit l)),bo,bB⟩
 else if sign c then(lex l bo (bB+1)).cons ⟨3,[c],0,bo,bB⟩
 else .bad 30 bo bB:=by rw[lex]
def Out.app(ao:List T):Out->Out
 |.done us=>.done (ao++us)
 |.bad e a b=>.bad e a b
theorem aTE(o:Out):Out.app [] o=o:=by cases o<;>rfl
def R'(t:T)(ao:List T)(o:Out):Out.app (t::ao) o=Out.cons t (Out.app ao o):=by cases o<;>simp[Out.app,Out.cons]
def iw:List UInt8->Nat × Nat->Nat × Nat
 | [],p=>p
 |c::l,p=>iw l (if c=10 then(p.1+1,1)else(p.1,p.2+1))
def JF:∀(a b:List UInt8) (p:Nat × Nat),iw (a++b) p=iw b (iw a p)
 | [],_,_=>rfl
 |c::a,b,p=>by simp only[du,iw,JF a b]
def x2:∀(l:List UInt8) (p:Nat × Nat),(∀c∈l,c≠10)->iw l p=(p.1,p.2+l.length)
 | [],p,_=>rfl
 |c::l,p,h=>by
   simp only[iw,h c hJ,hp];rw[x2 l _ fun x af=>h x (d9 _ af)];simp only[c3];rw[qs,Qg 1]
def Pr(p:UInt8->Bool):∀(l:List UInt8),∀c∈l.take (b2 p l),p c=true
 | []=>by simp
 |x::l=>by
   intro c ab;unfold b2 at ab;split at ab
   .rename_i af;rw[dK,nj]at ab
    rcases ab with rfl|ab
    .exact af
    .exact Pr p l c ab
   .simp at ab
def VL(p:UInt8->Bool):∀(l:List UInt8) {c:UInt8} {m:List UInt8},l.drop (b2 p l)=c::m->p c=false
 | [],c,m,h=>by simp at h
 |x::l,c,m,h=>by
   unfold b2 at h;split at h
   .rw[u3]at h;exact VL p l h
   .rename_i af;rw[nR]at h;cases h
    simpa using af
def arZ(p:UInt8->Bool):∀(a b:List UInt8),(∀c∈a,p c=true)->b2 p (a++b)=a.length+b2 p b
 | [],b,_=>by simp
 |c::a,b,h=>by
   simp only[du,b2,h c hJ,eW,c3];rw[arZ p a b fun x af=>h x (d9 _ af)];omega
def rH(p:UInt8->Bool)(l:List UInt8):(l.take (b2 p l)).length=b2 p l:=by rw[EP,Nat.min_eq_left (zO p l)]
def y3{c:UInt8}(p:UInt8->Bool)(ay:p 10=false)(l:List UInt8)(ab:c≠10):∀x∈c::l.take (b2 p l),x≠10:=by
 intro x af
 rcases nj.1 af with rfl|af
 .exact ab
 .rintro rfl;rw[Pr p l _ af]at ay;cases ay
def p2:Bool->List UInt8->Bool
 |_,[]=>true
 |aE4,c::l=>
   let a:=if c=59 then true else aE4
   let b:=if c=10 then false else a
   (b||blank c)&&p2 b l
def anA:∀(a b:List UInt8),(∀c∈a,c≠10)->p2 true (a++b)=p2 true b
 | [],b,_=>rfl
 |c::a,b,h=>by
   have j8:=h c hJ;simp only[du,p2,j8,hp]
   have:(if c=59 then true else true)=true:=by split<;>rfl
   simp only[this,zK,ol];exact anA a b fun x af=>h x (d9 _ af)
def aCR(b:List UInt8):p2 true (10::b)=p2 false (10::b):=by simp[p2]
inductive k':List UInt8->Nat × Nat->List T->Prop
 |last (g:List UInt8) (p:Nat × Nat):p2 false g=true->k' g p [⟨4,[],0,(iw g p).1,(iw g p).2⟩]
 |word (g r:List UInt8) (p:Nat × Nat) (t:T) (ao:List T):p2 false g=true->(t.line,t.rR)=iw g p->t.kind≠4->t.text≠[]->k' r (iw t.text (iw g p)) ao->k' (g++(t.text++r)) p (t::ao)
def k'.aJ5{c:UInt8}{l:List UInt8}{p:Nat × Nat}{ao:List T}(ah:blank c=true)(h:k' l (if c=10 then(p.1+1,1)else(p.1,p.2+1)) ao):k' (c::l) p ao:=by
 have ie:c≠59:=by rintro rfl;revert ah;decide
 have a8:∀g,p2 false (c::g)=p2 false g:=by
  intro g;simp only[p2,ie,hp]
  have:(if c=10 then false else false)=false:=by split<;>rfl
  simp only[this,ah,BX,ol]
 generalize bJ:(if c=10 then(p.1+1,1)else(p.1,p.2+1))=q at h
 cases h with
 |last g _ h=>
   have:=k'.last (c::l) p (by rw[a8];exact h)
   rw[iw,bJ]at this;exact this
 |word g r _ t ao J aa aI bl cO=>
   have:=k'.word (c::g) r p t ao (by rw[a8];exact J) (by rw[iw,bJ];exact aa) aI bl (by rw[iw,bJ];exact cO)
   rw[du]at this;exact this
def k'.comm{a l:List UInt8}{p:Nat × Nat}{ao:List T}(aO:∀x∈a,x≠10)(aq:l=[]\/∃m,l=10::m)(h:k' l (iw (59::a) p) ao):k' (59::(a++l)) p ao:=by
 have a8:∀g,(g=[]\/∃m,g=10::m)->p2 false (59::(a++g))=p2 false g:=by
  intro g a8
  have:p2 false (59::(a++g))=p2 true (a++g):=by simp[p2]
  rw[this,anA a g aO]
  rcases a8 with rfl|⟨m,rfl⟩
  .rfl
  .exact aCR m
 generalize bJ:iw (59::a) p=q at h
 have ai:∀g,iw (59::(a++g)) p=iw g q:=by
  intro g;rw[show 59::(a++g)=(59::a)++g from rfl,JF,bJ]
 cases h with
 |last g _ h=>
   have:=k'.last (59::(a++l)) p (by rw[a8 _ aq];exact h)
   rw[ai]at this;exact this
 |word g r _ t ao J aa aI bl cO=>
   have wA:g=[]\/∃m,g=10::m:=by
    cases g with
    |nil=>exact .inl rfl
    |cons x g=>
      rcases aq with aq|⟨m,aq⟩
      .cases aq
      .cases aq;exact .inr ⟨g,rfl⟩
   have:=k'.word (59::(a++g)) r p t ao (by rw[a8 _ wA];exact J) (by rw[ai];exact aa) aI bl (by rw[ai];exact cO)
   rw[show 59::(a++g)++(t.text++r)=59::(a++(g++(t.text++r))) by simp]at this
   exact this
def Aw{t:T}{o:Out}{ao:List T}(h:Out.cons t o=.done ao):∃us,o=.done us/\ao=t::us:=by
 cases o with
 |done us=>cases h;exact⟨us,rfl,rfl⟩
 |bad=>cases h
theorem TJ{t:T}{o:Out}{e a b:Nat}(h:Out.cons t o=.bad e a b):o=.bad e a b:=by
 cases o with
 |done us=>cases h
 |bad=>cases h;rfl
def k'.next{c:UInt8}{l x:List UInt8}{k n:Nat}{p:Nat × Nat}{us:List T}(an:k≠4)(ab:∀y∈c::x,y≠10)(h:k' l (p.1,p.2+(x.length+1)) us):k' (c::(x++l)) p (⟨k,c::x,n,p.1,p.2⟩::us):=by
 have:=k'.word [] l p ⟨k,c::x,n,p.1,p.2⟩ us rfl rfl an (by simp) (by rw[x2 _ _ ab];exact h)
 simpa using this
def yS:∀{c:UInt8},(letter c=true\/digit c=true\/sign c=true)->c≠10:=by
 rintro c h rfl;revert h;decide
def aXq:∀(n:Nat) (l:List UInt8) (p:Nat × Nat) (ao:List T),l.length<=n->lex l p.1 p.2=.done ao->k' l p ao:=by
 intro n
 induction n with
 |zero=>
   intro l p ao h e
   obtain rfl:l=[]:=lX (by omega)
   rw[lex_nil]at e;cases e;exact k'.last [] p rfl
 |succ n aF=>
   intro l p ao h e;cases l with
   |nil=>
     rw[lex_nil]at e;cases e;exact k'.last [] p rfl
   |cons c l=>
     have aq:l.length<=n:=by simpa using h
     have aQ:∀m,(l.drop m).length<=n:=fun m=>by rw[lm];omega
     rw[qy]at e;split at e
     .rename_i ah;refine k'.aJ5 ah ?_;split at e
      .rename_i j8;rw[bE j8];exact aF _ (p.1+1,1) _ aq e
      .rename_i j8;rw[bV j8];exact aF _ (p.1,p.2+1) _ aq e
     .split at e
      .rename_i ie;subst ie;have:=aF _ (p.1,p.2+(b2 other l+1)) _ (aQ _) e;rw[<- uH (b2 other l) l]
       have aJ:=y3 (c:=59) other (by decide) l (by decide)
       refine k'.comm (fun x af=>aJ x (d9 _ af)) ?_ ?_
       .cases af:l.drop (b2 other l)with
        |nil=>exact .inl rfl
        |cons c m=>
          have:=VL other l af
          exact .inr ⟨m,by rw[show c=10 by simpa[other]using this]⟩
       .rw[x2 _ _ aJ,c3,rH];exact this
      .split at e
       .rename_i ah ie b8;obtain⟨us,aE,rfl⟩:=Aw e;have:=aF _ (p.1,p.2+(b2 within l+1)) _ (aQ _) aE
        have aa:=k'.next (c:=c) (x:=l.take (b2 within l)) (k:=1) (n:=0) (p:=p) (by decide) (y3 within (by decide) l (yS (.inl b8))) (by rw[rH];exact this)
        rwa[uH]at aa
       .split at e
        .rename_i ah ie b8 jO;split at e
         .cases e
         .obtain⟨us,aE,rfl⟩:=Aw e;have:=aF _ (p.1,p.2+(b2 digit l+1)) _ (aQ _) aE
          have aa:=k'.next (c:=c) (x:=l.take (b2 digit l)) (k:=2) (n:=val (c::l.take (b2 digit l))) (p:=p) (by decide) (y3 digit (by decide) l (yS (.inr (.inl jO)))) (by rw[rH];exact this)
          rwa[uH]at aa
        .split at e
         .rename_i ah ie b8 jO ai;obtain⟨us,aE,rfl⟩:=Aw e;have:=aF _ (p.1,p.2+1) _ aq aE
          exact k'.next (c:=c) (x:=[]) (k:=3) (n:=0) (p:=p) (by decide) (by simpa using yS (.inr (.inr ai))) this
         .cases e
def T2(p:UInt8->Bool):∀(l u v:List UInt8),l.drop (b2 p l)=u++v->b2 p (l.take (b2 p l)++u)=b2 p l:=by
 intro l u v h;rw[arZ p _ _ (Pr p l),rH];cases u with
 |nil=>rfl
 |cons c u=>
   have:=VL p l (by rw[h];rfl)
   simp[b2,this]
def aja(p:UInt8->Bool):∀(a b:List UInt8),b2 p a<=b2 p (a++b)
 | [],b=>gY _
 |c::a,b=>by
   simp only[du,b2];split
   .exact Nat.succ_le_succ (aja p a b)
   .exact gY _
def Out.ok:Out->Bool
 |.done _=>true
 |.bad _ _ _=>false
theorem Xw(t:T)(o:Out):(Out.cons t o).ok=o.ok:=by cases o<;>rfl
theorem Z'(bo bB:Nat):(lex [] bo bB).ok=true:=by rw[lex_nil];rfl
def aSe(l:List UInt8)(p:Nat × Nat)(e a b:Nat):Prop:=(e=30\/e=31)/\∃u v,l=u++v/\v≠[]/\(lex u p.1 p.2).ok=true/\(a,b)=iw u p
def aPG:∀(n:Nat) (l:List UInt8) (p:Nat × Nat) (e a b:Nat),l.length<=n->lex l p.1 p.2=.bad e a b->aSe l p e a b:=by
 intro n
 induction n with
 |zero=>
   intro l p e a b h he
   obtain rfl:l=[]:=lX (by omega)
   rw[lex_nil]at he;cases he
 |succ n aF=>
   intro l p e a b h he;cases l with
   |nil=>rw[lex_nil]at he;cases he
   |cons c l=>
     have aq:l.length<=n:=by simpa using h
     have aQ:∀m,(l.drop m).length<=n:=fun m=>by rw[lm];omega
     have hh:=he;rw[qy]at he;split at he
     .rename_i ah;split at he
      .rename_i j8;obtain⟨J,u,v,rfl,aI,bl,cO⟩:=aF _ (p.1+1,1) _ _ _ aq he
       exact⟨J,c::u,v,rfl,aI,by rw[qy,bE ah,bE j8];exact bl,by rw[cO,iw,bE j8]⟩
      .rename_i j8;obtain⟨J,u,v,rfl,aI,bl,cO⟩:=aF _ (p.1,p.2+1) _ _ _ aq he
       exact⟨J,c::u,v,rfl,aI,by rw[qy,bE ah,bV j8];exact bl,by rw[cO,iw,bV j8]⟩
     .rename_i ah;split at he
      .rename_i ie;obtain⟨J,u,v,aa,aI,bl,cO⟩:=aF _ (p.1,p.2+(b2 other l+1)) _ _ _ (aQ _) he;have al:=T2 other l u v aa;refine⟨J,c::(l.take (b2 other l)++u),v,?_,aI,?_,?_⟩
       .rw[du,gi,<- aa,uH]
       .rw[qy,bV ah,bE ie,al];rw[MP (rH other l)];exact bl
       .rw[cO,<- du,JF,x2 (c::l.take (b2 other l)) p (y3 other (by decide) l (by rw[ie];decide)),c3,rH]
      .rename_i ie
       have II:∀(q:UInt8->Bool) (u:List UInt8),(l.take (b2 q l)++u).drop (b2 q l)=u:=by
        exact fun q u=>MP (rH q l)
       split at he
       .rename_i b8;obtain⟨J,u,v,aa,aI,bl,cO⟩:=aF _ (p.1,p.2+(b2 within l+1)) _ _ _ (aQ _) (TJ he);have al:=T2 within l u v aa;have iY:=II within u;refine⟨J,c::(l.take (b2 within l)++u),v,?_,aI,?_,?_⟩
        .rw[du,gi,<- aa,uH]
        .rw[qy,bV ah,bV ie,bE b8,al,iY,Xw];exact bl
        .rw[cO,<- du,JF,x2 (c::l.take (b2 within l)) p (y3 within (by decide) l (yS (.inl b8))),c3,rH]
       .rename_i b8;split at he
        .rename_i jO;split at he
         .rename_i gK;cases he
          exact⟨.inr rfl,[],c::l,rfl,by simp,Z' _ _,rfl⟩
         .rename_i gK;obtain⟨J,u,v,aa,aI,bl,cO⟩:=aF _ (p.1,p.2+(b2 digit l+1)) _ _ _ (aQ _) (TJ he);have al:=T2 digit l u v aa;have iY:=II digit u
          have hm:b2 within (l.take (b2 digit l)++u)<=b2 within l:=by
           have:=aja within (l.take (b2 digit l)++u) v;rw[gi,<- aa,uH]at this;exact this
          refine⟨J,c::(l.take (b2 digit l)++u),v,?_,aI,?_,?_⟩
          .rw[du,gi,<- aa,uH]
          .rw[qy,bV ah,bV ie,bV b8,bE jO,bV (fun af=>gK (by rw[al]at af;exact af.imp id (Or.imp id fun h=>by omega))),al,iY,Xw];exact bl
          .rw[cO,<- du,JF,x2 (c::l.take (b2 digit l)) p (y3 digit (by decide) l (yS (.inr (.inl jO)))),c3,rH]
        .rename_i jO;split at he
         .rename_i ai;obtain⟨J,u,v,rfl,aI,bl,cO⟩:=aF _ (p.1,p.2+1) _ _ _ aq (TJ he);refine⟨J,c::u,v,rfl,aI,?_,?_⟩
          .rw[qy,bV ah,bV ie,bV b8,bV jO,bE ai,Xw];exact bl
          .rw[cO,iw,bV (yS (.inr (.inr ai)))]
         .cases he
          exact⟨.inl rfl,[],c::l,rfl,by simp,Z' _ _,rfl⟩
end Go.ea.Tok
set_option maxRecDepth 100000
namespace Go.Proofs.YtngfpadeebpoeaaGreatDoor.gO
open Go.Proofs.YtngfpadeebpoeaaGreatDoor Go.ea
structure bt where
 kind:Nat->Nat
 text:Nat->List UInt8
 num:Nat->Nat
 same:Nat->Bool
def ef:Tok.T:=⟨4,[],0,0,0⟩
def bt.of(ao:List Tok.T):bt where
 kind a:=(ao.getD a ef).kind
 text a:=(ao.getD a ef).text
 num a:=(ao.getD a ef).n
 same a:=decide (a > 0)&&(ao.getD (a-1) ef).line==(ao.getD a ef).line
abbrev eA(α:Type):=Nat->Except Nat (α × Nat)
def eA.bind{α β:Type}(f:eA α)(g:α->eA β):eA β:=fun a=>match f a with
 |.error e=>.error e
 |.ok (x,b)=>g x b
section
variable (V:bt) (N:Nat)
def kL(l:List UInt8):ByteArray:=⟨l.toArray⟩
def nY(s:List UInt8)(a:Nat):Bool:=V.same a&&V.kind a==3&&V.text a==s
def eC:eA ByteArray:=fun a=>if(V.same a&&V.kind a==1)=true then .ok (kL (V.text a),a+1)else .error a
def gq:eA Nat:=fun a=>if(V.same a&&V.kind a==2)=true then .ok (V.num a,a+1)else .error a
def fO(s:List UInt8):eA Unit:=fun a=>if nY V s a=true then .ok ((),a+1)else .error a
def ry(a:Nat):Bool:=V.same a&&V.kind a != 4
def Oz:eA Unit:=fun a=>if ry V a=true then .error a else .ok ((),a)
def mD(s:List UInt8)(a:Nat):Bool:=V.kind a==1&&(V.kind (a+1)==3&&V.text (a+1)==s&&V.same (a+1))
def lD:Nat->List ByteArray->eA (List ByteArray)
 |0,_,a=>.error a
 |n+1,acc,a=>if nY V [41] a=true then .ok (acc,a)else
   if acc.length > 0 then(fO V [44]).bind (fun _=>(eC V).bind fun x=>lD n (acc++[x])) a
   else(eC V).bind (fun x=>lD n (acc++[x])) a
def p':eA (List ByteArray):=(fO V [40]).bind fun _=>(lD V N []).bind fun l=>(fO V [41]).bind fun _ a=>.ok (l,a)
def qE:Nat->List ByteArray->List ByteArray->eA (List ByteArray × List ByteArray)
 |0,_,_,a=>.error a
 |n+1,ls,xs,a=>(eC V).bind (fun l=>(fO V [58]).bind fun _=>(eC V).bind fun x b=>
   if nY V [44] b=true then(fO V [44]).bind (fun _=>qE n (ls++[l]) (xs++[x])) b else .ok ((ls++[l],xs++[x]),b)) a
def BY:Nat->bI->eA bI
 |1,x|2,x=>(gq V).bind fun n a=>.ok ({ x with k:=n },a)
 |3,x=>fun a=>.ok (x,a)
 |4,x=>(eC V).bind fun s a=>.ok ({ x with f:=s },a)
 |5,x|8,x=>(eC V).bind fun s a=>.ok ({ x with a:=s },a)
 |6,x=>(fO V [91]).bind fun _=>(qE V N x.ls x.xs).bind fun p=>(fO V [93]).bind fun _ a=>.ok ({ x with ls:=p.1,xs:=p.2 },a)
 |7,x=>(eC V).bind fun s=>(gq V).bind fun n a=>.ok ({ x with a:=s,k:=n },a)
 |9,x=>(eC V).bind fun s=>(fO V [44]).bind fun _=>(eC V).bind fun t a=>.ok ({ x with a:=s,b:=t },a)
 |10,x=>(eC V).bind fun s=>(p' V N).bind fun l a=>.ok ({ x with f:=s,xs:=l },a)
 |11,x=>(eC V).bind fun s=>(p' V N).bind fun l a=>.ok ({ x with a:=s,xs:=l },a)
 |12,x=>(eC V).bind fun s=>(eC V).bind fun t a=>.ok ({ x with ls:=[s,t] },a)
 |13,x=>(eC V).bind fun s a=>.ok ({ x with ls:=[s] },a)
 |14,x=>fun a=>if(V.same a&&V.kind a==1)=true then(eC V).bind (fun s a=>.ok ({ x with a:=s },a)) a else .ok (x,a)
 |_,_=>fun a=>.error a
def yG:List (List UInt8 × Nat):=[([97,108,108,111,99,97],1),([109,97,108,108,111,99],2),([110,117,108,108],3),([97,100,100,114],4),([99,111,112,121],5),([108,111,97,100],8),([102,105,101,108,100],7),([112,104,105],6),([99,97,108,108],10),([105,99,97,108,108],11)]
def AK:List (List UInt8 × Nat):=[([115,116,111,114,101],9),([99,97,108,108],10),([105,99,97,108,108],11),([98,114],12),([103,111,116,111],13),([114,101,116],14)]
def y1(l:List (List UInt8 × Nat))(s:List UInt8):Option Nat:=(l.find? fun p=>p.1==s).map (·.2)
def uV(d:ByteArray)(l:List (List UInt8 × Nat)):eA bI:=fun b=>match y1 l (V.text b)with
 |none=>if d.data.toList=[]then .error (b+1)else .error b
 |some o=>if V.kind b=1 then BY V N o { fE with op:=o,d:=d } (b+1)else .error b
def sR:eA bI:=fun a=>
 if mD V [61] a=true then(if V.same (a+2)=true then uV V N (kL (V.text a)) yG (a+2)else .error (a+2))
 else uV V N ⟨#[]⟩ AK a
def yy(bs:List ey)(x:bI):List ey:=bs.dropLast++(bs.getLast?.toList.map fun b=>{ b with code:=b.code++[x] })
def oR(nm:ByteArray)(ps:List ByteArray):Nat->List ey->eA cT
 |0,_,a=>.error a
 |n+1,bs,a=>
   if ry V a=true then .error a
   else if(V.kind a==3&&V.text a==[125])=true then(if ry V (a+1)=true then .error (a+1)else .ok (⟨nm,ps,bs⟩,a+1))
   else if mD V [58] a=true then oR nm ps n (bs++[⟨kL (V.text a),[]⟩]) (a+2)
   else if(V.kind a != 1||bs.length==0)=true then(if V.kind a=1 then .error (a+1)else .error a)
   else(sR V N).bind (fun x=>oR nm ps n (yy bs x)) a
def lr:eA cT:=fun a=>(eC V).bind (fun nm=>(p' V N).bind fun ps=>(fO V [123]).bind fun _=>oR V N nm ps N []) (a+1)
def rX:Nat->List cT->eA (List cT)
 |0,_,a=>.error a
 |n+1,fs,a=>if V.kind a=4 then .ok (fs,a)else
   if(V.kind a != 1||V.text a != [102,117,110,99])=true then .error a
   else(lr V N).bind (fun f=>rX n (fs++[f])) a
end
def GH(ao:List Tok.T):Except Nat (List cT):=match rX (bt.of ao) (ao.length+1) (ao.length+1) [] 0 with
 |.error e=>.error e
 |.ok (fs,_)=>.ok fs
end Go.Proofs.YtngfpadeebpoeaaGreatDoor.gO
namespace Go.ea
def aP8:=ba @aFt (ba @aUA (ba @aAN (ba @aQp (ba @azM (ba @aGV (ba @aN4 (ba @bol (ba @aiv (ba @aOm (ba @aPH (ba @aUV (ba @aTO (ba @aJ6 (ba @aEK (ba @aVT (ba @aIL (ba @azP (ba @aTv (ba @aIf (ba @ath (ba @CO (ba @aaw (ba @IN (ba @sK (ba @aVz (ba @aT4 (ba @aSM (ba @aIT (ba @aQ1 (ba @aIP (ba @aRs (ba @kw (ba @ol (ba @aHZ (ba @aTQ (ba @aDR (ba @XH (ba @aOb (@ayy)))))))))))))))))))))))))))))))))))))))
def aNO:=ba @aWc (ba @aIO (ba @aRX (ba @azk (ba @aCT (ba @aAU (ba @aVP (ba @ay0 (ba @aWz (ba @aBm (ba @aNL (ba @aRl (ba @aW4 (ba @aFs (ba @aWu (ba @aGs (ba @aS5 (ba @aEW (ba @aR3 (ba @aFO (ba @aBk (ba @aH6 (ba @aN9 (ba @aT7 (ba @aS8 (ba @aCJ (ba @aCW (ba @aCr (ba @aOL (ba @aRP (ba @aQY (ba @aKc (ba @aDD (ba @aAO (ba @aGt (ba @aFc (ba @aOc (ba @Lp (ba @B8 (@aLf)))))))))))))))))))))))))))))))))))))))
def aC8:=ba @Dj (ba @Vd (ba @avk (ba @aMN (ba @aUL (ba @aUR (ba @aUS (ba @aTU (ba @aGa (ba @aVO (ba @Wh (ba @not_false_eq_true (ba @AN (ba @wS (ba @BX (ba @zK (ba @pD (ba @aJo (ba @anO (ba @s7 (ba @Int.natCast_nonneg (ba @Bool.cond_true_left (ba @Bool.cond_false_right (ba @Bool.cond_false_left (ba @Bool.cond_true_right (ba @aDX (ba @aLP (ba @JP (ba @aoF (ba @avS (ba @aBO (ba @aTT (ba @aV8 (ba @aHf (ba @aSi (ba @aLq (ba @aQz (ba @aTl (ba @aGJ (@Yj)))))))))))))))))))))))))))))))))))))))
def aGu:=ba @Rj (ba @XO (ba @Re (ba @Rz (ba @Xp (ba @Qq (ba @Xk (ba @aHH (ba @aLn (ba @aFq (ba @WR (ba @U3 (ba @beq_true (ba @beq_false (ba @aGj (ba @aFW (ba @aOh (ba @aVf (ba @aE2 (ba @ay9 (ba @aWJ (ba @aEY (ba @T5 (ba @azB (ba @aHB (ba @aQX (ba @aSd (ba @aEX (ba @aWX (ba @aOy (ba @aIW (ba @QW (ba @aFo (ba @aAB (ba @aBn (ba @aPA (ba @aUg (ba @aWZ (ba @aCE (@aP2)))))))))))))))))))))))))))))))))))))))
def aHY:=ba @aWb (ba @aQb (ba @aL5 (ba @aHa (ba @aPe (ba @VO (ba @az1 (ba @aKi (ba @Bool.bne_false (ba @Bool.bne_true (ba @aSB (ba @aUF (ba @aAb (ba @aEJ (ba @azF (ba @aHK (ba @aN7 (ba @aIx (ba @ayK (ba @aJ3 (ba @aEO (ba @aRO (ba @aPZ (ba @aKt (ba @aBb (ba @aQf (ba @aEH (ba @aHx (ba @aOa (ba @aPM (ba @aQt (ba @aTo (ba @aFT (ba @aDw (ba @aIN (ba @aUG (ba @aQN (ba @aG6 (ba @aTM (@aOD)))))))))))))))))))))))))))))))))))))))
def aQ9:=ba @aBv (ba @aJx (ba @aPj (ba @aIY (ba @aCD (ba @aCw (ba @aFm (ba @aRw (ba @aQP (ba @aIy (ba @aTc (ba @aAJ (ba @aRE (ba @aeQ (ba @arf (ba @aEh (ba @JJ (ba @aeo (ba @aKX (ba @aSb (ba @aMz (ba @aKd (ba @aQl (ba @aJ4 (ba @aHC (ba @aJB (ba @h1 (ba @Vf (ba @aBM (ba @X4 (ba @O7 (ba @cq (ba @qW (ba @and_true (ba @wG (ba @mx (ba @AY (ba @Du (ba @aBB (@aF6)))))))))))))))))))))))))))))))))))))))
def aMH:=ba @ayV (ba @aEr (ba @aBz (ba @ayU (ba @aNP (ba @ayO (ba @aJt (ba @ayx (ba @ag2 (ba @azA (ba @aMs (ba @Int.sub_zero (ba @Int.le_refl (ba @j0 (ba @aMb (ba @aAv (ba @aG4 (ba @dh (ba @aMa (ba @aAc (ba @aNZ (ba @aCG (ba @aAK (ba @aBR (ba @aEq (ba @aPc (ba @aAA (ba @azW (ba @aWw (ba @aFB (ba @aHl (ba @aSs (ba @aVo (ba @aH5 (ba @aHu (ba @aK5 (ba @aO3 (ba @azr (ba @aP1 (@aRN)))))))))))))))))))))))))))))))))))))))
def aUs:=ba @afI (ba @atI (ba @aEa (ba @aCQ (@qs))))
def ayW:=@Bool.cond_self
def aCn:=@pq
def aA7:=@qo
def aGi:=@ant
def aA1:=@o7
def aOM:=@ne_eq
def aFe:=@hp
def aFi:=@eW
def aN0:=@PT
def aIs:=@XG
def aE1:=@Ee
def aGW:=@EH
def aVi:=@dB
def aPz:=@nn
def ayQ:=@du
def aVe:=@dW
def aIe:=@hC
def aMu:=@mu
def ay8:=@bne_self_eq_false
def aFp:=@EG
def aS6:=@ze
def aTp:=@nR
def aIb:=@u3
def aKM:=@dK
def aTh:=@dj
def aBQ:=@List.take_nil
def aIi:=@List.drop_nil
def aJS:=@c3
def aTu:=@eh
def aOF:=@Bc
def aDP:=@kK
def aTy:=@qt
def aCi:=@fP
def aI5:=@List.set_cons_zero
def aV7:=@List.set_cons_succ
def aB(R:List bx)(K O:List Nat)(m:Nat)(w4:List (List (Nat × Bool × E) × E))(os:List (Nat × E))(items:List hS)(h:nh R K O=some (m,Gj items os,os):=by kernel_rfl)(an:qw items=w4:=by kernel_rfl):∀(fr:List V) (H:ad),jN (nh R K O) K fr H=jN (some (m,w4,os)) K fr H:=fun fr H=>by rw[<- an];exact aAQ h fr H
def ck(R P T:List bx)(DZ K:List Nat)(lit:List bx)(e:R=P++T:=by exact rfl)(aU:P=lit:=by exact rfl)(h:Ci DZ T K=true:=by kernel_rfl):∀(call:c5) (it:hE) (base:Nat) (f:List V) (H:ad),aL call it base (.region R [] K) f H=nZ call it base (.region T [] K) (oH [] P DZ (cI call base lit f H)):=fun call it base f H=>by
 subst e;subst aU
 exact(xu call it base P T (kc:=DZ) h f H).trans (by rw[vK])
def fl(R:List bx)(oe pA K:List Nat){P T:List bx}(e:R=P++T:=by exact rfl)(h:Ci oe T K=true:=by kernel_rfl):∀(call:c5) (it:hE) (base:Nat) (f:List V) (H:ad),aL call it base (.region R [] K) f H=HP call it base T K H (jN (nh P oe pA) oe f H) (vA call it base R K f H):=fun call it base f H=>by
 subst e;exact awz call it base P T h f H
def bb(R:List bx)(oe pA K:List Nat)(m:Nat)(w4:List (List (Nat × Bool × E) × E))(os:List (Nat × E))(items:List hS){P T:List bx}(e:R=P++T:=by exact rfl)(h:Ci oe T K=true:=by kernel_rfl)(aa:nh P oe pA=some (m,Gj items os,os):=by kernel_rfl)(an:qw items=w4:=by kernel_rfl):(∀(fr:List V) (H:ad),jN (nh P oe pA) oe fr H=jN (some (m,w4,os)) oe fr H)/\∀(call:c5) (it:hE) (base:Nat) (f:List V) (H:ad),aL call it base (.region R [] K) f H=HP call it base T K H (jN (nh P oe pA) oe f H) (vA call it base R K f H):=⟨aB P oe pA m w4 os items aa an,fl R oe pA K e h⟩
def cU(R:List bx)(K O:List Nat):∀(call:c5) (it:hE) (base:Nat) (f:List V) (H:ad),aL call it base (.region R [] K) f H=KC H (jN (nh R K O) K f H) (vA call it base R K f H):=fun call it base f H=>aIU call it base R f H
def cA(R:List bx)(K O:List Nat)(m:Nat)(w4:List (List (Nat × Bool × E) × E))(os:List (Nat × E))(items:List hS)(h:nh R K O=some (m,Gj items os,os):=by kernel_rfl)(an:qw items=w4:=by kernel_rfl):(∀(fr:List V) (H:ad),jN (nh R K O) K fr H=jN (some (m,w4,os)) K fr H)/\∀(call:c5) (it:hE) (base:Nat) (f:List V) (H:ad),aL call it base (.region R [] K) f H=KC H (jN (nh R K O) K f H) (vA call it base R K f H):=⟨aB R K O m w4 os items h an,cU R K O⟩
def cl(R:List bx)(K:List Nat){a:bx}(e:R=[a]:=by exact rfl):∀(call:c5) (it:hE) (base:Nat) (f:List V) (H:ad),aL call it base (.region R [] K) f H=oH [] R K (cI call base [a] f H):=fun call it base f H=>by
 subst e;exact vK call it base [a] K f H
def bp(c b:bZ)(e:c=b:=by exact rfl):∀(call:c5) (it:hE) (base:Nat) (fr:List V) (H:ad),aL call it base c fr H=aL call it base b fr H:=fun _ _ _ _ _=>by rw[e]
def aC(R:List bx)(DZ K:List Nat){T:List bx}{a:bx}(e:R=a::T:=by exact rfl)(h:Ci DZ T K=true:=by kernel_rfl):∀(call:c5) (it:hE) (base:Nat) (f:List V) (H:ad),aL call it base (.region R [] K) f H=nZ call it base (.region T [] K) (oH [] [a] DZ (cI call base [a] f H)):=ck R [a] T DZ K [a] e rfl h
abbrev q(d:Nat)(o:bY):bx:=⟨some d,o,none⟩
abbrev bD(d:Nat)(o:bY)(n:Nat)(b:Bool):bx:=⟨some d,o,some (n,b)⟩
abbrev gQ:=List bx
abbrev b3(d n:Nat):bx:=⟨some d,.load false 1 (.t n),none⟩
abbrev dN(d n g:Nat)(b:Bool):bx:=⟨some d,.load false 1 (.t n),some (g,b)⟩
abbrev bM(d k n:Nat):bx:=⟨some d,.fieldAddr k (.t n),none⟩
abbrev dp(d k n g:Nat)(b:Bool):bx:=⟨some d,.fieldAddr k (.t n),some (g,b)⟩
abbrev aw(d n:Nat):bx:=⟨some d,.move (.t n),none⟩
abbrev ew(d n g:Nat)(b:Bool):bx:=⟨some d,.move (.t n),some (g,b)⟩
abbrev bn(x:E):E:=.op (.load false 1 (.t 0)) [x]
abbrev bq(k:Nat)(x:E):E:=.op (.fieldAddr k (.t 0)) [x]
def r7(l:List Nat):hS:=.sub 0 l []
def a6(l:List Nat)(n:Nat)(h:l.contains n=true:=by kernel_rfl):l.contains n=true:=h
def bk(l:List Nat)(n:Nat)(h:l.contains n=false:=by kernel_rfl):l.contains n=false:=h
abbrev cc(n:Int):b0:=.c (.s (.int .i64 n))
abbrev cR(n:Int):b0:=.c (.s (.int .u8 n))
abbrev bwd:b0:=.c (.s (.bool true))
abbrev dd:b0:=.c (.s (.bool false))
abbrev cM(a:Array UInt8):b0:=.c (.s (.string ⟨a⟩))
abbrev EL:b0:=.c (.s (.slice none 0 0))
abbrev cF:V:=.s (.string ⟨#[]⟩)
abbrev e9:V:=.s (.slice none 0 0)
abbrev h9:V:=.s (.int .u8 0)
abbrev c9:V:=.s (.int .i64 0)
abbrev cu:V:=.s (.bool false)
abbrev eB(o:bY):bx:=⟨none,o,none⟩
abbrev dO(n a b:Nat):bx:=⟨none,.store n (.t a) (.t b),none⟩
abbrev cL(d f:Nat)(l:List b0):bx:=⟨some d,.call (.c (.fn f [] [])) l,none⟩
abbrev bws(d:Nat)(o:b0):bx:=⟨some d,.move o,none⟩
abbrev eV(d n:Nat):bx:=⟨some d,.nilCheck (.t n),none⟩
abbrev ji(d s a b:Nat):bx:=⟨some d,.indexAddr s (.t a) (.t b),none⟩
abbrev iD(d a k:Nat):bx:=⟨some d,.extract (.t a) k,none⟩
abbrev dF(d:Nat)(a b c:b0):bx:=⟨some d,.pick a b c,none⟩
abbrev aXG(n:Nat):b0:=.t n
abbrev iE(n:Int):E:=.c (.s (.int .i64 n))
abbrev aX4(n:Int):E:=.c (.s (.int .u8 n))
abbrev gA:E:=.c (.s (.bool true))
abbrev gV:E:=.c (.s (.bool false))
abbrev aXb(a:Array UInt8):E:=.c (.s (.string ⟨a⟩))
abbrev h2(n:Int)(x:E):E:=.op (.bin .add (.t 0) (.c (.s (.int .i64 n)))) [x,.c (.s (.int .i64 n))]
abbrev eM(x:E):E:=.op (.nilCheck (.t 0)) [x]
abbrev iH(k:Nat)(x:E):E:=.op (.extract (.t 0) k) [x]
abbrev nv(n:Int)(x:E):E:=.op (.bin .eql (.t 0) (.c (.s (.int .u8 n)))) [x,.c (.s (.int .u8 n))]
abbrev je(s:Nat)(x y:E):E:=.op (.indexAddr s (.t 0) (.t 1)) [x,y]
abbrev VD(s:Nat)(n:Int)(x:E):E:=.op (.indexAddr s (.t 0) (.c (.s (.int .i64 n)))) [x,.c (.s (.int .i64 n))]
abbrev fX(x:E):E:=.op (.da .s (.t 0)) [x]
abbrev gZ(n:Nat)(x:E):E:=.op (.load true n (.t 0)) [x]
abbrev kO(x:E):E:=.op (.un .not (.t 0)) [x]
abbrev fj(o:BinOp)(x y:E):E:=.op (.bin o (.t 0) (.t 1)) [x,y]
abbrev mR(o:BinOp)(n:Int)(x:E):E:=.op (.bin o (.t 0) (.c (.s (.int .u8 n)))) [x,.c (.s (.int .u8 n))]
abbrev fY(o:BinOp)(n:Int)(x:E):E:=.op (.bin o (.t 0) (.c (.s (.int .i64 n)))) [x,.c (.s (.int .i64 n))]
abbrev bT:hS:=.sub 0 [0] []
abbrev az:hS:=.sub 0 [] []
abbrev lG:hS:=.sub 0 [0,0,0,0] []
abbrev ee:hS:=.sub 0 [0,0,0] []
abbrev dx:hS:=.sub 0 [0,0] []
abbrev mN:hS:=.sub 0 [1] []
abbrev Bz:hS:=.sub 0 [1,0,0] []
abbrev q2:hS:=.sub 0 [1,0] []
abbrev eE:hS:=.sub 1 [] []
abbrev Fw:hS:=.sub 1 [0,0] []
abbrev me:hS:=.sub 1 [0] []
abbrev I6:List Nat:=[38,39,40]
abbrev XI:List Nat:=[8,62,63,64,65,66,67,68,69,70,71,72,73,74,75,76]
abbrev UT:List Nat:=[10,85,86,87,88,89,90,91,92,93,94,95]
abbrev Pp:hS:=.sub 1 [1,0,0,0,0] []
abbrev Ko:hS:=.sub 1 [1,0,0,0] []
abbrev XK:List Nat:=[0,7,8,9,10,11,12,13,14,15,16,17,18,19,20,21,22,23,24,25,26,27,28,29,30]
abbrev Hx:hS:=.sub 0 [0,1,0] []
abbrev AT:hS:=.sub 0 [0,1] []
abbrev Yd:hS:=.sub 1 [0,0,0] []
abbrev XR:List Nat:=[25,26,27,28,29,30,31,32,33,34,35,36,37,38,39]
abbrev r3:List Nat:=[6,7,8,9,10,11,12,13,14,15,16,17,18,19,20,21,22,23,24,25,26,27,28,29,30,31]
abbrev HU:List Nat:=[0,3,4,5,6,7,8,9,10,11,12]
abbrev qU:List Nat:=[4,5]
abbrev Ni:List Nat:=[11,14,15,16,17,18]
abbrev aeC:List Nat:=[9,10,11,12,13,14,15,16,17,18,19,20]
abbrev Fm:List Nat:=[0,1,5,21,22,23,24,25,26,27,28,29,30,31,32,33,34,35,36,37,38,39]
abbrev KT:List Nat:=[1,5,6,7,8,9,10,11,12,13]
abbrev Bv:List Nat:=[0,1,5,6,7,8,9,10,11,12,13,14,15,16,17,18,19]
abbrev qL:List Nat:=[0,3,4,5,6,7,8,9,10,11,12,13,14,15,16,17,18,19,20,21,22,23,24,25,26,27]
abbrev S0:List Nat:=[0,1,9,10,11,12,13]
abbrev HD:List Nat:=[0,1,7,8,9,10,11]
abbrev Ae:hS:=.sub 2 [] []
abbrev MA:List Nat:=[0,8,9,10,11,12,13]
abbrev Hv:List Nat:=[13,14,15,16,17]
abbrev PU:List Nat:=[4,61,64,65,66,67,68,69,70,71]
abbrev Vo:List Nat:=[4,9,10,11,12,13]
abbrev Kb:List Nat:=[4,9,29,30,31,32,33,34,35,36]
abbrev Vs:List Nat:=[6,43,51,52,53,54,55,56,57]
abbrev sX:List Nat:=[1,2,3,4,5,6,7,8]
abbrev np:List Nat:=[1,2,3,4,5,6,7,8,9,10,11,12]
abbrev Bd:hS:=.sub 0 [0,0,0,0,0] []
abbrev MW:hS:=.sub 0 [0,0,0,0,0,0,0] []
abbrev MM:hS:=.sub 0 [0,0,0,0,0,0] []
abbrev LD:List Nat:=[26,27,28,29,30,31,32,33,34,35,36,37,38,39,40,41,42,43,44,45]
abbrev BQ:List Nat:=[9,89,90,91,92,93,94,95,96,97,98,99,100,101,102,103,104,105,106,107,108,109,110,111,112,113,114,115,116,117,118,119,120,121,122,123,124,125,126,127,128,129,130,131]
abbrev jT:List Nat:=[1,2,3,4,5,6,7,8,9,10,11,12,13,14,15,16]
abbrev NR:List Nat:=[0,1,5,6,7,8]
abbrev W2:List Nat:=[2,8,9,10,11,12,13,14,15,16,17]
abbrev NZ:List Nat:=[6,91,92,93,94,95,96,97,98,99,100,101,102,103,104,105,106,107,108,109,110,111,112,113,114,115,116,117,118,119,120,121,122,123,124,125,126,127,128,129,130,131,132,133,134,135]
abbrev Wk:List Nat:=[0,1,4,5,6,7,8,9,10,11,12,13,14,15,16,17,18]
abbrev FI:List Nat:=[23,24,25,26,27,28,29,30]
abbrev alw:List Nat:=[0,4,6,7,16,17,18,35,36,37,45,46,47,48]
abbrev aoM:List Nat:=[0,4,6,8,16,17,18,35,36,37,50,51,52,131,132,133,134,135]
abbrev LS:List Nat:=[2,8,9,10,11]
abbrev iO:List Nat:=[1,6,12,13,14,15,16,17,18,19,20,21,22,23,24,25,26,27,28,29,30,31,32,33,34,35,36,37,38,39,40,41,42,43,44,45,46,47]
abbrev ME:List Nat:=[7,49,51,52,53,54]
abbrev j4:List Nat:=[64,65,66,67,68,69,70,71,72,73,74,75,76,77,78,79,80,81,82,83,84,85,86,87,88,89,90,91,92,93,94,95,96,97,98,99,100,101]
abbrev mC:List Nat:=[9,10,102,103,104,105,106,107,108,109,110,111,112,113,114,115,116,117,118,119,120,121,122,123,124,125,126,127,128,129,130]
abbrev Md:List Nat:=[1,4,5,6,7,8]
abbrev JM:List Nat:=[5,6,24,25,26,27,28,29]
abbrev GJ:List Nat:=[41,42,43,44,45,46,47,48,49,50,51]
abbrev Xe:List Nat:=[16,79,80,81,82,83,84]
abbrev o4:List Nat:=[1,2,3,4,5,6]
abbrev Qn:List Nat:=[0,8,9,10,11,12,13,14,15,16]
abbrev AP:List Nat:=[1,2,4,5,6,7,8]
abbrev sB:List Nat:=[1,3,4,5,6]
abbrev Tg:List Nat:=[4,5,14,15,16,17,18,19,20,21,22,23,24]
abbrev N9:List Nat:=[1,2,4,5,6,7,8,9,10]
abbrev Xj:List Nat:=[1,3,4,5,6,7,8,9]
abbrev xx:List Nat:=[1,3,4,5,6,7,8,9,10]
abbrev Vg:List Nat:=[1,3,4,5,6,7,8,9,10,11,12]
abbrev M5:List Nat:=[1,3,4,5,6,7]
abbrev FB:List Nat:=[36,37,38,39,40,41,42,43,44,45,46,47,48,49,50,51,52,53,54,55,56]
abbrev aoK:List Nat:=[93,96,97,98,99,100,101,102,103,104,105,106]
abbrev ub:List Nat:=[2,3,5,6,7,8,9,10,11,12,13,14,15,16,17,18,19,20,21,22,23,24,25,26,27,28,29,30,31,32,33,34,35,36,37,38,39,40,41,42,43,44,45,46,47,48,49,50,51,52,53,54,55,56,57,58]
abbrev vP:List Nat:=[3,4,5,6,7,8,9,10,11,12,13,14,15,16]
abbrev CS:List Nat:=[34,35,36,37,38,39,40]
abbrev Qb:List Nat:=[2,5,7,8,9,10,11,46,47,48,49,50,51,52,53,54,55,56,57,58,59,60,61,62,63,64,65,66]
abbrev DE:List Nat:=[1,13,67,69,70,71,72,73,74,75]
abbrev ar1:List Nat:=[12,15,16,85,86,87,88,89,90,91,92,93,94]
abbrev EB:List Nat:=[15,16,18,85,95,96,97,98,99,100]
abbrev Fq:List Nat:=[12,17,19,101,102,103,104,105,106,107,108,109,110]
def I{a b:Prop}(h:a)(k:b):a/\b:=⟨h,k⟩
def aG:=I @aSv (I @aI3 (I @aFQ (I @ar.eq_1 (I @i64.eq_1 (I @iQ.eq_1 (I @lC.eq_1 (I @lC.eq_2 (I @aP8 (I @aNO (I @aC8 (I @aGu (I @aHY (I @aQ9 (I @aMH (I @aUs (I @ayW.{1} (I @aCn.{0} (I @aA7.{0} (I @aGi.{0} (I @aA1.{0,0} (I @aOM.{1} (I @aFe.{1} (I @aFi.{1} (I @aN0.{0} (I @aIs.{0} (I @aE1.{1} (I @aGW.{1} (I @aVi.{0} (I @aPz.{0} (I @ayQ.{0} (I @aVe.{0,0} (I @aIe.{0,0} (I @aMu.{0} (I @ay8.{0} (I @aFp.{0} (I @aS6.{0} (I @aTp.{0} (I @aIb.{0} (I @aKM.{0} (I @aTh.{0} (I @aBQ.{0} (I @aIi.{0} (I @aJS.{0} (I @aTu.{0} (I @aOF.{0,0} (I @aDP.{0} (I @aTy.{0} (I @aCi.{0} (I @aI5.{0} (@aV7.{0}))))))))))))))))))))))))))))))))))))))))))))))))))
open Go.RowKit
abbrev fu:=TypeId × V × ad
abbrev rM:=V->List V->Nat->ad->fu->Prop
def mB(call:c5)(base:Nat):Nat->List bx->List V->ad->Option (V × List V × ad)
 |_,[],_,_=>none
 |0,o::_,fr,H=>match want o fr with
   |some true=>match o.op with
     |.call f xs=>some (aV fr f,xs.map (aV fr),H)
     |_=>none
   |_=>none
 |n+1,o::os,fr,H=>match want o fr with
   |none=>none
   |some false=>mB call base n os (put o.dst bF fr) H
   |some true=>match bf call base fr H o.op with
     |some (v,H')=>mB call base n os (put o.dst v fr) H'
     |none=>none
def adc(u:V):c5:=fun _ _ _ H=>some (u,H)
abbrev nx:=List bx->List V->Prop
def Ji(call:c5)(fK:rM)(base:Nat)(C:nx)(ops:List bx)(ct:List (Nat × Nat))(fr:List V)(H:ad)(r:fu):Prop:=
 C ops fr/\(∃i v args H1,mB call base i ops fr H=some (v,args,H1)/\fK v args base H1 r)/\
 ∃u aW H',cI (adc u) base ops fr H=some (aW,H')/\ct.all (tD (adc u) base ops fr H aW)=true
inductive pe (b:List V->ad->Option cy) (x:List V->ad->fu->Prop) (kill:List Nat) (m:Nat):List V->ad->fu->Prop
 |here {fr:List V} {H:ad} {r:fu} (h:x fr H r):pe b x kill m fr H r
 |next {fr aW:List V} {H H':ad} {r:fu} (h:b fr H=some (.bR,aW,H')) (k:pe b x kill m (ul kill aW) (trim m (ul kill aW) H') r):pe b x kill m fr H r
def gg(call:c5)(fK:rM)(it:hE)(base:Nat)(C:nx):bZ->List V->ad->fu->Prop
 |.region ops ct _,fr,H,r=>Ji call fK base C ops ct fr H r
 |.seq a b,fr,H,r=>gg call fK it base C a fr H r\/∃cw H1,aL call it base a fr H=some (.bR,cw,H1)/\gg call fK it base C b cw H1 r
 |.cond c a b,fr,H,r=>(aV fr c=.s (.bool true)/\gg call fK it base C a fr H r)\/(aV fr c=.s (.bool false)/\gg call fK it base C b fr H r)
 |.block _ c,fr,H,r=>gg call fK it base C c fr H r
 |.loop kill c,fr,H,r=>pe (fun fr H=>aL call it base c fr H) (fun fr H r=>gg call fK it base C c fr H r) kill H.length (ul kill fr) H r
 |_,_,_,_=>False
def DV(o:Oper):Bool:=
 match o.op with
 |.call { callee:=.value _,.. }=>true
 |_=>false
def Rr(ops:Array Oper):Bool:=(List.range ops.size).all fun i=>(List.range ops.size).all fun j=>!(DV (ops.getD i default)&&DV (ops.getD j default))||i==j
def oq:Code->Bool
 |.region _ ops draw=>!draw||Rr ops
 |.seq a b=>oq a&&oq b
 |.cond _ a b=>oq a&&oq b
 |.block _ c=>oq c
 |.loop c=>oq c
 |.rangeFunc _ _ a b=>oq a&&oq b
 |_=>true
def Il(ops:Array Oper):Prop:=∀(i j:Nat) (o o':Oper),ops[i]?=some o->ops[j]?=some o'->DV o=true->DV o'=true->i=j
def atJ{ops:Array Oper}(h:Rr ops=true):Il ops:=by
 intro i j o o' hi bz J aa;unfold Rr at h;have li:=(tA.1 hi).1;have ayR:=(tA.1 bz).1
 have:=fp.1 (fp.1 h i (by simpa using li)) j (by simpa using ayR)
 simp_all
def Il.perm{ops:Array Oper}{c2:List Nat}(ay:T6 c2 ops)(h:Il ops):Il (lS c2 ops):=by
 intro i j o o' hi bz J aa
 have get:∀(i:Nat) (o:Oper),(lS c2 ops)[i]?=some o->∃k sf,c2[i]?=some k/\ops[k]?=some sf/\o=B7 c2 sf:=fun i o hi=>by
  have li:i<c2.length:=by rw[<- UH (ops:=ops)];exact(tA.1 hi).1
  have an:c2[i]?=some c2[i]:=eP li;have aq:=ay.lt _ (rU li);have aX:ops[c2[i]]?=some ops[c2[i]]:=mO aq;have:=KO an aX
  simp_all
 obtain⟨k,sf,k1,k2,rfl⟩:=get i o hi;obtain⟨ia,aIz,aUP,aHI,rfl⟩:=get j o' bz;have:=h k ia sf aIz k2 aHI J aa;subst this;have aE:=Th ay.TC k1;have aU:=Th ay.TC aUP;omega
section
variable {aK:eX} {μ cf:cp} {ae b9:Nat->Prop} {w w':World} {H H':ad} {P:Program} {pure':fA} {call:c5} {fK:rM}
def G7(aK:eX)(μ:cp)(ae:Nat->Prop)(w:World)(H:ad)(r:fu)(dI:List PanicEntry)(w':World):Prop:=
 ∃c cf b9,dI=[{ v:=.iface r.1 c,recovered:=false }]/\bS cf b9 w' r.2.1 c/\c8 aK μ ae w H cf b9 w' r.2.2
def QR(l:List bx)(fr jo:List V):Prop:=∀s,(∀o∈l,o.dst≠some s)->jo.getD s .bu=fr.getD s .bu
def xP(aK:eX)(C:nx)(μ:cp)(ae:Nat->Prop)(w:World)(H:ad)(de:List Deferred)(r:fu)(dI:List PanicEntry)(bW:Act)(w':World):Prop:=
 ∃c cf b9 l fr jo,dI=[{ v:=.iface r.1 c,recovered:=false }]/\bS cf b9 w' r.2.1 c/\c8 aK μ ae w H cf b9 w' r.2.2/\Marks w.heap.size cf w' bW.defers de/\C l fr/\QR l fr jo/\c7 cf b9 w' jo bW.tmps
def q4(aK:eX)(μ:cp)(ae:Nat->Prop)(w:World)(H:ad)(r:fu)(dI:List PanicEntry)(l:List bx)(fr:List V)(bW:Act)(w':World):Prop:=
 ∃c cf b9 jo,dI=[{ v:=.iface r.1 c,recovered:=false }]/\bS cf b9 w' r.2.1 c/\c8 aK μ ae w H cf b9 w' r.2.2/\QR l fr jo/\c7 cf b9 w' jo bW.tmps
structure Iw (P:Program) (aK:eX) (fK:rM):Prop where
 fn:∀(f:Nat) (fst cap args:List V) (base:Nat) (H:ad) (r:fu),fK (.fn f fst cap) args base H r->
  (∀xs w,(callFunc f xs).run P w=.ok (.enter f xs) w)/\
  ∀(μ:cp) (ae:Nat->Prop) (w:World) (cs:List Value),cE aK μ ae w H->b6 μ ae w (fst++args++cap) cs->∀n,CallsIn Fence.wide n P f cs.toArray w (fun e w'=>∃dI,e=.panicked dI/\G7 aK μ ae w H r dI w')
 only:∀v args base H r,fK v args base H r->∃f fst cap,v=.fn f fst cap
 floor:∀v args base H r,fK v args base H r->jC base H r.2.2
def xP.trans{C:nx}{cH:cp}{cJ:Nat->Prop}{bc:World}{H1:ad}{de ud:List Deferred}{r:fu}{dI:List PanicEntry}{bW:Act}(ay:c8 aK μ ae w H cH cJ bc H1)(hm:Marks w.heap.size cH bc ud de)(h:xP aK C cH cJ bc H1 ud r dI bW w'):xP aK C μ ae w H de r dI bW w':=by
 obtain⟨c,h',lU,l,fr,jo,e,v,p,m,x⟩:=h;exact⟨c,h',lU,l,fr,jo,e,v,ay.trans p,hm.trans p ay.c4.size m,x⟩
def q4.trans{cH:cp}{cJ:Nat->Prop}{bc:World}{H1:ad}{r:fu}{dI:List PanicEntry}{l:List bx}{fr:List V}{bW:Act}(ay:c8 aK μ ae w H cH cJ bc H1)(h:q4 aK cH cJ bc H1 r dI l fr bW w'):q4 aK μ ae w H r dI l fr bW w':=by
 obtain⟨c,h',lU,jo,e,v,p,x⟩:=h;exact⟨c,h',lU,jo,e,v,ay.trans p,x⟩
def q4.e{C:nx}{r:fu}{dI:List PanicEntry}{l:List bx}{fr:List V}{bW:Act}(ab:C l fr)(h:q4 aK μ ae w H r dI l fr bW w'):xP aK C μ ae w H bW.defers r dI bW w':=by
 obtain⟨c,h',lU,jo,e,v,p,k,f⟩:=h;exact⟨c,h',lU,l,fr,jo,e,v,p,Marks.refl _ _ _ _,ab,k,f⟩
def G7.g(bd:cE aK μ ae w H){r:fu}{dI:List PanicEntry}{l:List bx}{fr jo:List V}{bW:Act}(h:G7 aK μ ae w H r dI w')(an:QR l fr jo)(al:c7 μ ae w jo bW.tmps):q4 aK μ ae w H r dI l fr bW w':=by
 obtain⟨c,h',lU,e,v,p⟩:=h;exact⟨c,h',lU,jo,e,v,p,an,al.post bd p⟩
def avo(af:Iw P aK fK)(h:cE aK μ ae w H){a:Act}{fr:List V}(al:c7 μ ae w fr a.tmps){o:Oper}{f:b0}{xs:List b0}(ab:DK P pure' o (.call f xs)){base:Nat}{r:fu}(ay:fK (aV fr f) (xs.map (aV fr)) base H r){ro:Option Nat}{n:Nat}{next:Act->World->Prop}{Q:Exit->Act->World->Prop}(a6:∀dI w',G7 aK μ ae w H r dI w'->Q (.panic dI) a w'):o.wpIn (ix ro) n P a w next Q:=by
 rcases ab with ab|⟨hk,vt,ab,e⟩|⟨k,vt,ab,e⟩|⟨_,_,_,_,ab,e⟩|e
 case inr.inl=>cases e
 case inr.inr.inl=>cases e
 case inr.inr.inr.inl=>cases e
 case inr.inr.inr.inr=>cases e
 rcases xA ab with⟨g,args,jS,vt,y,aX,jL,bC,⟨k,_,e⟩|e⟩|⟨_,ht,_⟩
 .cases e
 .cases e;refine⟨fun _ _=>trivial,?_⟩
  rw[Oper.semAt_eq _ _ _ (by simp[aX])]
  have vI:execOp a.eval o=(do let d <- resolve a.eval { callee:=.value g,args,argTypes:=jS } o.type;invoke d.target d.args):=by
   unfold execOp;rw[aX]
  rw[vI];obtain⟨k,x,z,ua⟩:=af.only _ _ _ _ _ ay;have av:=ec al bC;rw[ua]at av ay;generalize uk:a.eval g=LV at av;cases av with
  |fn _ _ _ fF e8 J aa aI bl=>
    obtain⟨k6,jx⟩:=af.fn k x z _ base H r ay;have aO:=GZ al jL
    have db:b6 μ ae w (x++xs.map (aV fr)++z) (fF++args.map a.eval++e8).toList:=by
     have et:b6 μ ae w x fF.toList:=⟨by simpa using J,fun i p q ay bJ=>aI i p q ay (by simpa using bJ)⟩
     have kA:b6 μ ae w z e8.toList:=⟨by simpa using aa,fun i p q ay bJ=>bl i p q ay (by simpa using bJ)⟩
     simpa using(et.append aO).append kA
    have fv:(do let d <- resolve a.eval { callee:=.value g,args,argTypes:=jS } o.type;invoke d.target d.args:Sem Next).run P w=.ok (.enter k (fF++args.map a.eval++e8)) w:=by
     simp only[resolve,uk,Deferred.ofValue,Sem.run_bind,Sem.run_pure,ev,invoke,k6]
    rw[fv];have ab:=jx μ ae w _ h db (n-1);simp only[Cb]at ab
    refine⟨fun h=>by simp[ix]at h,ab.mono ?_⟩
    simp_all
 .simp[bY.kP]at ht
def adX{base:Nat}:∀(l:List bx) (i:Nat) {fr:List V} {H:ad} {v:V} {args:List V} {H1:ad},mB call base i l fr H=some (v,args,H1)->
 ∃o f xs cw,l[i]?=some o/\o.op=.call f xs/\cI call base (l.take i) fr H=some (cw,H1)/\want o cw=some true/\v=aV cw f/\args=xs.map (aV cw):=by
 intro l
 induction l with
 |nil=>intro i fr H v args H1 h;cases i<;>cases h
 |cons o l aF=>
   intro i fr H v args H1 h;cases i with
   |zero=>
     simp only[mB]at h;split at h
     .rename_i hw;split at h
      .rename_i f xs aX;cases h;exact⟨o,f,xs,fr,rfl,aX,rfl,hw,rfl,rfl⟩
      .cases h
     .cases h
   |succ i=>
     simp only[mB]at h;split at h
     .cases h
     .rename_i hw;obtain⟨o',f,xs,cw,J,aa,aI,bl⟩:=aF i h
      refine⟨o',f,xs,cw,by simpa using J,aa,?_,bl⟩
      simp only[dK,cI,hw];exact aI
     .rename_i hw;split at h
      .rename_i u bH he;obtain⟨o',f,xs,cw,J,aa,aI,bl⟩:=aF i h
       refine⟨o',f,xs,cw,by simpa using J,aa,?_,bl⟩
       simp only[dK,cI,hw,he];exact aI
      .cases h
def NQ{d:Option Nat}{v:V}{fr:List V}{s:Nat}(h:d≠some s):(put d v fr).getD s .bu=fr.getD s .bu:=by
 by_cases ai:s<fr.length
 .rw[Hu _ _ _ _ ai,bV h]
 .have J:(put d v fr)[s]?=none:=FH (by rw[CR];omega)
  simp_all
def q4.put{r:fu}{dI:List PanicEntry}{l:List bx}{fr:List V}{bW:Act}{o:bx}{v:V}(aX:o∈l)(h:q4 aK μ ae w H r dI l (Go.ea.put o.dst v fr) bW w'):q4 aK μ ae w H r dI l fr bW w':=by
 obtain⟨c,h',lU,jo,e,u,p,k,f⟩:=h;exact⟨c,h',lU,jo,e,u,p,fun s ai=>(k s ai).trans (NQ (ai o aX)),f⟩
def aU0(ai:o3 P aK call)[oS aK P](af:Iw P aK fK){ops:Array Oper}{l:List bx}(ak:pP P pure' ops l){base:Nat}{ro:Option Nat}{n:Nat}{Q:Exit->Act->World->Prop}{v:V}{args:List V}{H1:ad}{r:fu}:
 ∀(i k:Nat) (fr:List V) (H:ad) (a:Act) (w:World) (μ:cp) (ae:Nat->Prop),cE aK μ ae w H->c7 μ ae w fr a.tmps->mB call base i (l.drop k) fr H=some (v,args,H1)->fK v args base H1 r->
   (∀dI bW w',bW.defers=a.defers->q4 aK μ ae w H r dI l fr bW w'->Q (.panic dI) bW w')->wpOpsIn (ix ro) n P ops Q ((List.range ops.size).drop k) a w:=by
 intro i
 induction i with
 |zero=>
   intro k fr H a w μ ae h al aj ay a6
   have b8:k<l.length:=by
    refine Od fun ab=>?_
    rw[Gh (by omega)]at aj
    cases aj
   have uv:k<ops.size:=by rw[<- ak.1];exact b8
   have aE:(List.range ops.size).drop k=k::(List.range ops.size).drop (k+1):=by
    rw[mF (by simpa using uv)];simp
   rw[aE];rw[mF b8]at aj;have aX:ops[k]?=some ops[k]:=mO uv;obtain⟨aQ,ab,a8⟩:=ak.2 k ops[k] l[k] aX (eP b8);rw[wpOpsIn_cons];unfold wpOpIn;simp only[aX];simp only[mB]at aj;split at aj
   .rename_i hw;rw[uX a8 al hw];simp only[eW];split at aj
    .rename_i f xs dz;cases aj;rw[dz]at ab;exact avo af h al ab ay fun dI w' bJ=>a6 dI a w' rfl (bJ.g h (fun _ _=>rfl) al)
    .cases aj
   .cases aj
 |succ i aF=>
   intro k fr H a w μ ae h al aj ay a6
   have b8:k<l.length:=by
    refine Od fun ab=>?_
    rw[Gh (by omega)]at aj
    cases aj
   have uv:k<ops.size:=by rw[<- ak.1];exact b8
   have aE:(List.range ops.size).drop k=k::(List.range ops.size).drop (k+1):=by
    rw[mF (by simpa using uv)];simp
   rw[aE];rw[mF b8]at aj;have aX:ops[k]?=some ops[k]:=mO uv;obtain⟨aQ,ab,a8⟩:=ak.2 k ops[k] l[k] aX (eP b8);rw[wpOpsIn_cons];unfold wpOpIn;simp only[aX];simp only[mB]at aj;split at aj
   .cases aj
   .rename_i hw;rw[uX a8 al hw];simp only[pD,hp];refine⟨fun _ _=>trivial,?_⟩;refine aF (k+1) _ H _ w μ ae h (aQ▸al.put _ (.s _)) aj ay (fun dI bW w' k5 bJ=>a6 dI bW w' ?_ (q4.put (rU b8) bJ));rw[k5,put_defers]
   .rename_i hw;rw[uX a8 al hw];simp only[eW];split at aj
    .rename_i u bH dz;refine xi ai h al ab dz ?_;rintro q bc ⟨c,cH,cJ,e,av,hX⟩;cases e;refine aF (k+1) _ bH _ bc cH cJ hX.ak (aQ▸(al.post h hX).put _ av) aj ay (fun dI bW w' k5 bJ=>a6 dI bW w' ?_ ((q4.put (rU b8) bJ).trans hX));rw[k5,put_defers]
    .cases aj
def aaZ{c c':c5}{base:Nat}{fr:List V}{H:ad}{op:bY}(h:op.kP=false):bf c base fr H op=bf c' base fr H op:=by
 cases op<;>first|rfl|(simp[bY.kP]at h;done)
def aJI(u:V):∀v args base H r H',adc u v args base H=some (r,H')->H.length<=H'.length/\∀id,id<base->id<H.length->H'[id]?=H[id]?:=by
 intro v args base H r H' h;cases h
 simp_all
def aff{o:Oper}{iB:bY}(h:DK P pure' o iB)(ab:iB.kP=true):DV o=true:=by
 have key:∀zN,qh P pure' o=some zN->zN.kP=true->DV o=true:=fun zN aa pQ=>by
  rcases xA aa with⟨g,args,jS,vt,y,aX,_⟩|⟨_,ht,_⟩
  .unfold DV;rw[aX]
  simp_all
 rcases h with h|⟨hk,vt,h,e⟩|⟨k,vt,h,e⟩|⟨_,_,_,_,h,e⟩|e
 .exact key _ h ab
 .exact key _ h rfl
 .exact key _ h rfl
 .rw[e]at ab;cases ab
 .rw[e]at ab;cases ab
def Zk(ai:o3 P aK call)[oS aK P](af:Iw P aK fK){ops:Array Oper}{l:List bx}{ct:List (Nat × Nat)}(ak:pP P pure' ops l)(aQ:qv (Region.before ops).toList ct l=true/\pr ops=true)(jj:Il ops){base:Nat}{ro:Option Nat}{n:Nat}{Q:Exit->Act->World->Prop}{fr:List V}{H:ad}{r:fu}{C:nx}(aj:Ji call fK base C l ct fr H r){a:Act}{w:World}{μ:cp}{ae:Nat->Prop}(h:cE aK μ ae w H)(al:c7 μ ae w fr a.tmps)(a6:∀dI bW w',bW.defers=a.defers->q4 aK μ ae w H r dI l fr bW w'->Q (.panic dI) bW w'):wpAnyIn (ix ro) n P .any ops Q ops.size (Array.replicate ops.size false) a { w with drawn:=w.drawn+1 }:=by
 obtain⟨_,⟨i,v,args,H1,cl,ay⟩,u,aJR,aAX,bp,uQ⟩:=aj;obtain⟨o,f,xs,cw,J,aa,aI,bl,rfl,rfl⟩:=adX l i cl;have pE:i<l.length:=(dQ.1 J).1;have Wt:l.getD i default=o:=vv J
 have mX:∀k,k<l.length->k≠i->(l.getD k default).op.kP=false:=by
  intro k an eS;cases ab:(l.getD k default).op.kP with
  |false=>rfl
  |true=>
    exfalso
    have nf:k<ops.size:=by rw[<- ak.1];exact an
    have pc:i<ops.size:=by rw[<- ak.1];exact pE
    have aJP:l[k]?=some (l.getD k default):=by rw[eP an,vv (eP an)]
    have D7:=(ak.2 k ops[k] _ (mO nf) aJP).2.1;have ci:=(ak.2 i ops[i] _ (mO pc) J).2.1
    exact eS (jj k i _ _ (mO nf) (mO pc) (aff D7 ab) (aff ci (by rw[aa];rfl)))
 have EY:wy (Region.before ops).toList ct l=true:=by
  cases e:wy (Region.before ops).toList ct l with
  |true=>rfl
  |false=>
    exfalso;have cO:=aQ.1;unfold qv at cO;rw[e,wS,dR]at cO;have fQ:=cO.2;unfold Hp at fQ;simp only[dR,fp]at fQ;have qB:=fQ.1.2 o (ib J);rw[aa]at qB;simp[FM,bY.cls,bY.kP,bY.A8,bY.im,bY.sl]at qB
 obtain⟨F,G,val,bw,a2,a3,a4,a5⟩:=aoq _ _ _ _ _ bp;have R:Row P pure' (adc u) base ops l ct fr aJR H aAX F G val:=⟨ak,EY,aQ.2,bw,a2,a3,a4,a5,uQ,aJI u⟩
 have pre:∀k,k<=i->cI call base (l.take k) fr H=some (F k,G k):=by
  intro k
  induction k with
  |zero=>intro _;rw[dj,bw,a2];rfl
  |succ k aF=>
    intro an
    have tI:k<l.length:=by omega
    have a8:l[k]?=some (l.getD k default):=by rw[eP tI,vv (eP tI)]
    rw[By,a8,Ll,aF (by omega)]
    obtain⟨t1,t2⟩:=a5 k _ a8;simp only[Option.toList_some,cI]
    rcases t2 with⟨hw,av,yl⟩|⟨hw,dz⟩
    .grind
    .rw[hw];simp only
     rw[aaZ (c':=adc u) (mX k tI (by omega)),dz,t1]
 have EF:=pre i (cq _);rw[aI]at EF;cases EF
 have cS:(l.getD i default).op.hn=true:=by rw[Wt,aa];rfl
 have Ar:∀k,(Array.replicate ops.size false).getD k false=false:=by
  intro k;by_cases an:k<ops.size<;>simp[an]
 have cn:c8 aK μ ae w H μ ae { w with drawn:=w.drawn+1 } H:=L7 h rfl rfl rfl rfl
 refine aet R h (some i) (fun j e=>by cases e;exact pE) (fun k ok fU tI eS ab ve cH cJ bc afw p BI K next hh H8 he aJ=>?_) (fun j aTk e apV ab=>?_) ops.size _ a _ μ ae 0 (by simp[ak.1]) ?_ ?_ (fun j _=>Ar j) (gY _) (fun k an=>by omega) (fun k _ _ _=>Ar k) (by rw[a2];exact cn) ?_ rfl (fun e=>by cases e)
 .have ht:=mX k tI (fun e=>eS (by rw[e]))
  rw[aaZ (c':=call) ht]at he;exact xi ai hh H8 ab he aJ
 .cases e
  refine⟨cS,by rw[Wt];exact bl,fun ve cH cJ bc afw next hX H8 fz SM ph=>?_⟩
  rw[Wt,aa]at ab
  have aaI:aV ve f=aV (F i) f/\xs.map (aV ve)=xs.map (aV (F i)):=by
   have dz:∀x∈(bY.call f xs).rF,aV ve x=aV (F i) x:=fun x af=>JO (o:=o) (by rw[aa];exact af) (by simp_all)
   exact⟨dz f hJ,zP fun x af=>dz x (d9 _ af)⟩
  refine avo af hX.ak H8 ab (by rw[aaI.1,aaI.2];exact ay) fun dI w' bJ=>a6 dI afw w' ph ((bJ.g hX.ak (fun s ai=>SM s fun k an=>?_) H8).trans hX)
  simp_all
 .unfold qK;refine jn VZ ?_;simp[ak.1]
 .intro j bz
  simp_all
 .have:(h4 (f' l) val fr l.length fun k=>(Array.replicate ops.size false).getD k false)=fr:=by
   refine BK pd fun s ai=>?_;rw[pd]at ai;rw[uP,bE ai,B4 (i:=0) l.length fun k _ _=>?_]
   .simp[lw]
   .rw[Ar k];simp
  rw[this];exact al.post h cn
def aiE(P:Program)(aK:eX)(C:nx)(ro:Option Nat)(n:Nat)(c:Code)(X:List V->ad->fu->Prop):Prop:=
 ∀(fr:List V) (H:ad) (r:fu),X fr H r->∀(μ:cp) (ae:Nat->Prop) (w:World) (a:Act) (Q:Exit->Act->World->Prop),cE aK μ ae w H->c7 μ ae w fr a.tmps->(∀l,ro=some l->∃r,w.heap[l]?=some (.loop r))->
   (∀dI bW w',xP aK C μ ae w H a.defers r dI bW w'->Q (.panic dI) bW w')->c.wpIn (ix ro) n P Q a w
def aEm{C:nx}{ro:Option Nat}{n:Nat}{c:Code}{b:List V->ad->Option cy}{x:List V->ad->fu->Prop}(ah:N1 P aK ro n c b)(Cx:aiE P aK C ro n c x)(kill:List Nat)(m:Nat){fr:List V}{H:ad}{r:fu}(aq:pe b x kill m fr H r):
 ∀(μ:cp) (ae:Nat->Prop) (w:World) (a:Act) (Q:Exit->Act->World->Prop) (ej:cp) (dY:Nat->Prop) (dv:World) (cK:ad) (de:List Deferred),cE aK ej dY dv cK->cK.length<=m->m<=H.length->
   c8 aK ej dY dv cK μ ae w H->Marks dv.heap.size μ w a.defers de->c7 μ ae w fr a.tmps->(∀l,ro=some l->∃r,w.heap[l]?=some (.loop r))->
   (∀dI bW w',xP aK C ej dY dv cK de r dI bW w'->Q (.panic dI) bW w')->∃k,Code.roundsIn (ix ro) n P c Q k a w:=by
 induction aq with
 |here h=>
   intro μ ae w a Q ej dY dv cK de bd ts hm ay nt al eR a6;refine⟨1,?_⟩;rw[roundsIn_succ];refine Cx _ _ _ h μ ae w a _ ay.ak al eR fun dI bW w' bJ=>a6 dI bW w' (xP.trans ay nt bJ)
 |next h k aF=>
   rename_i cw qu H1 bH bP;intro μ ae w a Q ej dY dv cK de bd ts hm ay nt al eR a6;have key:∀(l:List V) (K:ad) (q:fu),pe b x kill m l K q->∃N,∀(μ:cp) (ae:Nat->Prop) (w:World) (a:Act) (Q:Exit->Act->World->Prop) (ej:cp) (dY:Nat->Prop) (dv:World) (cK:ad) (de:List Deferred),cE aK ej dY dv cK->cK.length<=m->m<=K.length->
    c8 aK ej dY dv cK μ ae w K->Marks dv.heap.size μ w a.defers de->c7 μ ae w l a.tmps->(∀l,ro=some l->∃r,w.heap[l]?=some (.loop r))->
    (∀dI bW w',xP aK C ej dY dv cK de q dI bW w'->Q (.panic dI) bW w')->Code.roundsIn (ix ro) n P c Q N a w:=by
    intro l K q bJ
    induction bJ with
    |here h=>
      refine⟨1,fun μ ae w a Q ej dY dv cK de bd ts hm ay nt al eR a6=>?_⟩;rw[roundsIn_succ];exact Cx _ _ _ h μ ae w a _ ay.ak al eR fun dI bW w' bJ=>a6 dI bW w' (xP.trans ay nt bJ)
    |next h k aF=>
      obtain⟨N,eo⟩:=aF;refine⟨N+1,fun μ ae w a Q ej dY dv cK de bd ts hm ay nt al eR a6=>?_⟩;rw[roundsIn_succ];refine ah _ _ .bR _ _ h μ ae w a _ ay.ak al eR ?_;rintro bw bc ⟨cH,cJ,cn,f1,m1⟩;have hX:=ay.trans cn;obtain⟨h',dP,f2,s2,fZ⟩:=P1 hX bd.hz ts (jn hm cn.len) (f1.kill kill);have IZ:=(nt.trans cn ay.c4.size m1).sub s2;refine eo h' cJ bc bw Q ej dY dv cK de bd ts fZ dP IZ f2 (fun l aq=>?_) a6;obtain⟨r,ak⟩:=eR l aq;exact cn.c4.loops l r ak
   obtain⟨N,eo⟩:=key _ _ _ (.next h k)
   exact⟨N,eo μ ae w a Q ej dY dv cK de bd ts hm ay nt al eR a6⟩
def abB(ai:o3 P (eU P pure') call)(af:Iw P (eU P pure') fK)(fh:P.follows .mixedOrders=true)(fS base:Nat){C:nx}{c:Code}{ac:bZ}(ab:hD P pure' c ac)(jj:oq c=true):
 ∀(ro:Option Nat) (n:Nat),aiE P (eU P pure') C ro n c (gg call fK (fun b k m=>gd b k m fS) base C ac):=by
 induction ab with
 |skip=>intro ro n fr H r h;exact h.elim
 |label l=>intro ro n fr H r h;exact h.elim
 |exit id=>intro ro n fr H r h;exact h.elim
 |ret=>intro ro n fr H r h;exact h.elim
 |bh=>intro ro n fr H r h;exact h.elim
 |OS=>intro ro n fr H r h;exact h.elim
 |rangeFunc=>intro ro n fr H r h;exact h.elim
 |region id ops draw l ct kill ak aQ=>
   intro ro n fr H r aj μ ae w a Q h al eR a6;have aj:Ji call fK base C l ct fr H r:=aj
   have bJ:∀dI bW w',bW.defers=a.defers->q4 (eU P pure') μ ae w H r dI l fr bW w'->Q (.panic dI) bW w':=fun dI bW w' k5 bJ=>a6 dI bW w' (by rw[<- k5];exact bJ.e (C:=C) aj.1)
   cases draw with
   |false=>
     obtain⟨_,⟨i,v,args,H1,cl,ay⟩,_⟩:=aj;refine wpIn_region ?_
     have:=aU0 (Q:=Q) (ro:=ro) (n:=n) ai af ak i 0 fr H a w μ ae h al (by simpa using cl) ay bJ
     simpa using this
   |true=>exact wpIn_region_any fh (Zk ai af ak (aQ rfl) (atJ (by simpa[oq]using jj)) aj h al bJ)
 |O4 id ops c2 l ct kill ay ak aQ=>
   intro ro n fr H r aj μ ae w a Q h al eR a6
   have bJ:∀dI bW w',bW.defers=a.defers->q4 (eU P pure') μ ae w H r dI l fr bW w'->Q (.panic dI) bW w':=fun dI bW w' k5 bJ=>a6 dI bW w' (by rw[<- k5];exact bJ.e (C:=C) aj.1)
   exact wpIn_region_any fh (KQ ay (Zk ai af ak aQ ((atJ (by simpa[oq]using jj)).perm (amo ay)) aj h al bJ))
 |seq x y oE r4 wi _ tl vH=>
   intro ro n fr H r aj μ ae w a Q h al eR a6;simp only[oq,dR]at jj;refine wpIn_seq ?_
   rcases aj with aj|⟨cw,H1,J,aa⟩
   .exact tl jj.1 ro n _ _ _ aj μ ae w a _ h al eR fun dI bW w' bJ=>a6 dI bW w' bJ
   .refine HI ai fh fS base wi ro n _ _ _ _ _ J μ ae w a _ h al eR ?_;rintro bw bc ⟨cH,cJ,cn,f1,m1⟩;refine vH jj.2 ro n _ _ _ aa cH cJ bc bw Q cn.ak f1 (fun l aq=>?_) (fun dI a2 dJ bJ=>a6 dI a2 dJ (xP.trans cn m1 bJ));obtain⟨q,bJ⟩:=eR l aq;exact cn.c4.loops l q bJ
 |cond c o x y oE r4 ko _ _ tl vH=>
   intro ro n fr H r aj μ ae w a Q h al eR a6;simp only[oq,dR]at jj;have av:=ec al ko
   rcases aj with⟨he,aj⟩|⟨he,aj⟩
   .rw[he]at av;exact wpIn_cond_true (ei av) (tl jj.1 ro n _ _ _ aj μ ae w a Q h al eR a6)
   .rw[he]at av;exact wpIn_cond_false (ei av) (vH jj.2 ro n _ _ _ aj μ ae w a Q h al eR a6)
 |block id c x _ aF=>
   intro ro n fr H r aj μ ae w a Q h al eR a6;refine wpIn_block ?_;exact aF jj ro n _ _ _ aj μ ae w a _ h al eR fun dI bW w' bJ=>a6 dI bW w' bJ
 |loop c kill x wi aF=>
   intro ro n fr H r aj μ ae w a Q h al eR a6;obtain⟨k,an⟩:=aEm (HI ai fh fS base wi ro n) (aF jj ro n) kill H.length aj μ ae w a Q μ ae w H a.defers h (cq _) (cq _) (c8.refl h) (Marks.refl _ _ _ _) (al.kill kill) eR a6;exact wpIn_loop_rounds k an
def aAs{base:Nat}(e2:∀v args base H r H',call v args base H=some (r,H')->H.length<=H'.length/\∀id,id<base->id<H.length->H'[id]?=H[id]?){i:Nat}{l:List bx}{fr:List V}{H:ad}{v:V}{args:List V}{H1:ad}(h:mB call base i l fr H=some (v,args,H1)):jC base H H1:=by
 obtain⟨o,f,xs,cw,_,_,aI,_⟩:=adX l i h;exact SD e2 _ aI
def acu(e2:∀v args base H r H',call v args base H=some (r,H')->H.length<=H'.length/\∀id,id<base->id<H.length->H'[id]?=H[id]?)(aW8:∀v args base H r,fK v args base H r->jC base H r.2.2)(fS base:Nat){C:nx}:∀(ac:bZ) {fr:List V} {H:ad} {r:fu},gg call fK (fun b k m=>gd b k m fS) base C ac fr H r->jC base H r.2.2:=by
 intro ac
 induction ac with
 |region ops ct kill=>
   intro fr H r he;obtain⟨_,⟨i,v,args,H1,J,aa⟩,_⟩:=he;exact(aAs e2 J).trans (aW8 _ _ _ _ _ aa)
 |seq a b iU kb=>
   intro fr H r he
   rcases he with he|⟨cw,H1,J,aa⟩
   .exact iU he
   .exact(uA e2 fS a J).trans (kb aa)
 |cond o a b iU kb=>
   intro fr H r he
   rcases he with⟨_,aa⟩|⟨_,aa⟩
   .exact iU aa
   .exact kb aa
 |block id a aF=>intro fr H r he;exact aF (fr:=fr) he
 |loop kill a aF=>
   intro fr H r he;have he:pe (fun fr H=>aL call (fun b k m=>gd b k m fS) base a fr H) (fun fr H r=>gg call fK (fun b k m=>gd b k m fS) base C a fr H r) kill H.length (ul kill fr) H r:=he
   suffices h:∀(m:Nat) fr K r,pe (fun fr H=>aL call (fun b k m=>gd b k m fS) base a fr H) (fun fr H r=>gg call fK (fun b k m=>gd b k m fS) base C a fr H r) kill m fr K r->m<=K.length->m<=r.2.2.length/\∀id,id<base->id<m->r.2.2[id]?=K[id]? by
    obtain⟨J,aa⟩:=h _ _ _ _ he (cq _);exact⟨J,aa⟩
   intro m fr K r aq
   induction aq with
   |here h=>
     intro hm;have f:=aF h;exact⟨jn hm f.1,fun id J aa=>f.2 id J (mm aa hm)⟩
   |next h _ ot=>
     intro hm;have f:=uA e2 fS a h;rename_i cw aW oh K' bP _;obtain⟨t1,t2⟩:=M4 (fr:=ul kill aW) (jn hm f.1);obtain⟨bP,ca⟩:=ot t1;exact⟨bP,fun id J aa=>(ca id J aa).trans ((t2 id aa).trans (f.2 id J (mm aa hm)))⟩
 |_=>intro fr H r he;exact he.elim
end
open Go.RowKit
def yB(b1:Nat->Option cz)(PP:Nat->List V->Nat->ad->fu->Prop)(X:Nat->Bool):Nat->rM
 |0=>fun _ _ _ _ _=>False
 |n+1=>fun v args base H r=>∃f fst cap,v=.fn f fst cap/\
    ((X f=true/\∃c,b1 f=some (.code c)/\gg (iq b1 n) (yB b1 PP X n) (fun b k m=>gd b k m n) base (fun _ _=>True) c.body (fst++args++cap++List.replicate (c.ntmps-(fst++args++cap).length) bF) H r)\/PP f (fst++args++cap) base H r)
section
variable {aK:eX} {μ cf:cp} {ae b9:Nat->Prop} {w w':World} {H H':ad} {P:Program} {pure':fA}
def aQj{ej:cp}{dY:Nat->Prop}{dv:World}{cK:ad}{fn:Func}{tmps:Array Value}{x:V}{c:Value}{R:Ending->World->Prop}{n:Nat}{dI:List PanicEntry}(MY:∀w',c8 aK ej dY dv cK μ ae w' H->bS μ ae w' x c->R (.panicked dI) w'):
 ∀(L:List Nat) (w:World),c8 aK ej dY dv cK μ ae w H->bS μ ae w x c->L.Nodup->(∀D∈L,dv.heap.size<=D/\w.heap[D]?=some (.deferred (some []))/\∀id g b,μ id g≠some (D,b))->
   LeavesInM Fence.wide n P fn tmps R (L.map Pw) (.panicking dI) w:=by
 intro L
 induction L with
 |nil=>intro w ay al _ _;exact MY w ay al
 |cons D L aF=>
   intro w ay al lN cU;obtain⟨J,aa,aI⟩:=cU D hJ
   refine⟨by simp,.inl ⟨D,_,rfl,run_takeDeferred aa,?_⟩⟩
   obtain⟨cn,av⟩:=Tm (y:=none) ay J aa aI;refine aF _ cn (av al) (ble.1 lN).2 (fun E bp=>?_);obtain⟨k1,k2,eN⟩:=cU E (d9 _ bp)
   have eS:E≠D:=fun e=>by simp_all
   exact⟨k1,(World.putObj_heap_other eS).trans k2,eN⟩
def Yg(P:Program)(pure':fA)(PP:Nat->List V->Nat->ad->fu->Prop):Prop:=
 ∀k vs base H r,PP k vs base H r->jC base H r.2.2/\(∀xs w,(callFunc k xs).run P w=.ok (.enter k xs) w)/\
   ∀μ ae w cs,cE (eU P pure') μ ae w H->b6 μ ae w vs cs->∀n,CallsIn Fence.wide n P k cs.toArray w (fun e w'=>∃dI,e=.panicked dI/\G7 (eU P pure') μ ae w H r dI w')
variable {b1:Nat->Option cz} {PP:Nat->List V->Nat->ad->fu->Prop} {X:Nat->Bool}
def aRv(fh:P.follows .mixedOrders=true)(jg:∀k c,b1 k=some c->iP P pure' k c)(jj:∀k fn body,X k=true->P.funcs[k]?=some fn->fn.body=some body->oq body=true)(MH:Yg P pure' PP):∀n,Iw P (eU P pure') (yB b1 PP X n):=by
 intro n
 induction n with
 |zero=>exact⟨fun _ _ _ _ _ _ _ h=>h.elim,fun _ _ _ _ _ h=>h.elim,fun _ _ _ _ _ h=>h.elim⟩
 |succ n aF=>
   refine⟨fun f fst cap args base H r h=>?_,fun v args base H r h=>by obtain⟨f,fst,cap,e,_⟩:=h;simp_all,fun v args base H r h=>by
    obtain⟨f,fst,cap,e,⟨_,c,_,CU⟩|CU⟩:=h
    .exact acu (DS fh jg n).floor aF.floor n base c.body CU
    .exact(MH _ _ _ _ _ CU).1⟩
   obtain⟨hk,fF,e8,e,h⟩:=h;cases e
   rcases h with⟨cl,c,ab,CU⟩|h
   .obtain⟨fn,body,J,aa,aI,bl,cO,fQ⟩:=jg f _ ab;refine⟨Go.Proofs.enters_of J aI aa,fun μ ae w cs hh db m=>?_⟩;refine callsIn_of_wp_marks J aa trivial ?_
    have qq:c7 μ ae w (fst++args++cap++List.replicate (c.ntmps-(fst++args++cap).length) bF) (cs.toArray++Array.replicate (fn.ntmps-cs.toArray.size) Go.undef):=by
     unfold c7;have:=db.append (IM (μ:=μ) (ae:=ae) (w:=w) (c.ntmps-(fst++args++cap).length));simp only[Lx,PG,tr,cO];rw[db.1]at this |-;exact this
    refine abB (DS fh jg n) aF fh n base bl (jj _ _ _ cl J aa) none m _ H r CU μ ae w { tmps:=cs.toArray++Array.replicate (fn.ntmps-cs.toArray.size) Go.undef,defers:=[] } _ hh qq (fun l aq=>by cases aq) ?_
    rintro dI bW w' ⟨bA,cH,cJ,_,_,_,aE,v1,cn,⟨L,cU,lN,ES⟩,_⟩;show LeavesInM Fence.wide m P fn bW.tmps _ bW.defers (.panicking dI) w';rw[cU,nn];exact aQj (μ:=cH) (ae:=cJ) (x:=r.2.1) (c:=bA) (fun dJ dP v2=>⟨dI,rfl,bA,cH,cJ,aE,v2,dP⟩) L w' cn v1 lN ES
   .exact(MH f _ base H r h).2
end
section
variable {b1:Nat->Option cz} {PP:Nat->List V->Nat->ad->fu->Prop} {X:Nat->Bool}
def PK(p hG:rM):Prop:=∀v args base H r,p v args base H r->hG v args base H r
def Qo{c c':c5}(h:tN c c'){base:Nat}:∀(i:Nat) (l:List bx) {fr:List V} {H:ad} {r:V × List V × ad},mB c base i l fr H=some r->mB c' base i l fr H=some r:=by
 intro i
 induction i with
 |zero=>intro l fr H r he;cases l<;>exact he
 |succ i aF=>
   intro l fr H r he;cases l with
   |nil=>exact he
   |cons o l=>
     simp only[mB]at he |-;split at he
     .cases he
     .exact aF l he
     .split at he
      .rename_i v H1 J;rw[Pe h J];exact aF l he
      .cases he
def blt{C:nx}{c c':c5}{p hG:rM}(h:tN c c')(k:PK p hG){base:Nat}{ops:List bx}{ct:List (Nat × Nat)}{fr:List V}{H:ad}{r:fu}(he:Ji c p base C ops ct fr H r):Ji c' hG base C ops ct fr H r:=by
 obtain⟨bd,⟨i,v,args,H1,J,aa⟩,aI⟩:=he;exact⟨bd,⟨i,v,args,H1,Qo h i ops J,k _ _ _ _ _ aa⟩,aI⟩
def aqE{b b':List V->ad->Option cy}{x hH:List V->ad->fu->Prop}(ah:∀fr H r,b fr H=some r->b' fr H=some r)(af:∀fr H r,x fr H r->hH fr H r){kill:List Nat}{m:Nat}{fr:List V}{H:ad}{r:fu}(h:pe b x kill m fr H r):pe b' hH kill m fr H r:=by
 induction h with
 |here h=>exact .here (af _ _ _ h)
 |next h _ aF=>exact .next (ah _ _ _ h) aF
def Ms{C:nx}{c c':c5}{p hG:rM}(h:tN c c')(k:PK p hG){n ek:Nat}(aJ:n<=ek){base:Nat}:∀(ac:bZ) {fr:List V} {H:ad} {r:fu},gg c p (pJ n) base C ac fr H r->gg c' hG (pJ ek) base C ac fr H r:=by
 intro ac
 induction ac with
 |region ops ct kill=>intro fr H r he;exact blt h k he
 |seq a b iU kb=>
   intro fr H r he
   rcases he with he|⟨cw,H1,J,aa⟩
   .exact .inl (iU he)
   .exact .inr ⟨cw,H1,Bu h aJ a J,kb aa⟩
 |cond o a b iU kb=>
   intro fr H r he
   rcases he with⟨J,aa⟩|⟨J,aa⟩
   .exact .inl ⟨J,iU aa⟩
   .exact .inr ⟨J,kb aa⟩
 |block id a aF=>intro fr H r he;exact aF (fr:=fr) he
 |loop kill a aF=>intro fr H r he;exact aqE (fun fr H r e=>Bu h aJ a e) (fun fr H r e=>aF e) he
 |_=>intro fr H r he;exact he.elim
def aB3:∀n,PK (yB b1 PP X n) (yB b1 PP X (n+1)):=by
 intro n
 induction n with
 |zero=>intro v args base H r h;exact h.elim
 |succ n aF=>
   intro v args base H r h;obtain⟨f,fst,cap,e,h⟩:=h;refine⟨f,fst,cap,e,?_⟩
   rcases h with⟨cl,c,ab,h⟩|h
   .exact .inl ⟨cl,c,ab,Ms (RQ n) aF (GA n) c.body h⟩
   .exact .inr h
def L5{n m:Nat}(h:n<=m):PK (yB b1 PP X n) (yB b1 PP X m):=by
 induction h with
 |refl=>exact fun _ _ _ _ _ h=>h
 |step _ aF=>exact fun v args base H r h=>aB3 _ _ _ _ _ _ (aF _ _ _ _ _ h)
def o2(b1:Nat->Option cz)(PP:Nat->List V->Nat->ad->fu->Prop)(X:Nat->Bool):rM:=fun v args base H r=>∃n,yB b1 PP X n v args base H r
def aKn{base:Nat}:∀(i:Nat) (l:List bx) {fr:List V} {H:ad} {r:V × List V × ad},mB (aR b1) base i l fr H=some r->∃n,mB (iq b1 n) base i l fr H=some r:=by
 intro i
 induction i with
 |zero=>intro l fr H r he;refine⟨0,?_⟩;cases l<;>exact he
 |succ i aF=>
   intro l fr H r he;cases l with
   |nil=>exact⟨0,he⟩
   |cons o l=>
     simp only[mB]at he;split at he
     .cases he
     .rename_i hw;obtain⟨n,aJ⟩:=aF l he;refine⟨n,?_⟩;simp only[mB,hw];exact aJ
     .rename_i hw;split at he
      .rename_i v H1 J;obtain⟨cC,iJ⟩:=abq J;obtain⟨b5,lL⟩:=aF l he;refine⟨max cC b5,?_⟩;simp only[mB,hw];rw[Pe (rK (uF cC b5)) iJ];exact Qo (rK (pW cC b5)) i l lL
      .cases he
def YY{C:nx}{base:Nat}:∀(ac:bZ) {fr:List V} {H:ad} {r:fu},gg (aR b1) (o2 b1 PP X) aN base C ac fr H r->∃n,gg (iq b1 n) (yB b1 PP X n) (pJ n) base C ac fr H r:=by
 intro ac
 induction ac with
 |region ops ct kill=>
   intro fr H r he;obtain⟨bd,⟨i,v,args,H1,J,b5,aa⟩,aI⟩:=he;obtain⟨cC,iJ⟩:=aKn i ops J;exact⟨max cC b5,bd,⟨i,v,args,H1,Qo (rK (uF cC b5)) i ops iJ,L5 (pW cC b5) _ _ _ _ _ aa⟩,aI⟩
 |seq a b iU kb=>
   intro fr H r he
   rcases he with he|⟨cw,H1,J,aa⟩
   .obtain⟨n,aJ⟩:=iU he;exact⟨n,.inl aJ⟩
   .obtain⟨cC,iJ⟩:=uf a J;obtain⟨b5,lL⟩:=kb aa;exact⟨max cC b5,.inr ⟨cw,H1,nw (uF cC b5) iJ,Ms (rK (pW cC b5)) (L5 (pW cC b5)) (pW cC b5) b lL⟩⟩
 |cond o a b iU kb=>
   intro fr H r he
   rcases he with⟨J,aa⟩|⟨J,aa⟩
   .obtain⟨n,aJ⟩:=iU aa;exact⟨n,.inl ⟨J,aJ⟩⟩
   .obtain⟨n,aJ⟩:=kb aa;exact⟨n,.inr ⟨J,aJ⟩⟩
 |block id a aF=>intro fr H r he;exact aF (fr:=fr) he
 |loop kill a aF=>
   intro fr H r he;have he:pe (fun fr H=>aL (aR b1) aN base a fr H) (fun fr H r=>gg (aR b1) (o2 b1 PP X) aN base C a fr H r) kill H.length (ul kill fr) H r:=he
   suffices h:∀m fr H r,pe (fun fr H=>aL (aR b1) aN base a fr H) (fun fr H r=>gg (aR b1) (o2 b1 PP X) aN base C a fr H r) kill m fr H r->∃n,pe (fun fr H=>aL (iq b1 n) (pJ n) base a fr H) (fun fr H r=>gg (iq b1 n) (yB b1 PP X n) (pJ n) base C a fr H r) kill m fr H r from h _ _ _ _ he
   intro m fr H r he
   induction he with
   |here h=>obtain⟨n,aJ⟩:=aF h;exact⟨n,.here aJ⟩
   |next h _ ot=>
     obtain⟨cC,iJ⟩:=uf a h;obtain⟨b5,lL⟩:=ot
     refine⟨max cC b5,.next (nw (uF cC b5) iJ) (aqE (fun fr H r e=>?_) (fun fr H r e=>?_) lL)⟩
     .exact nw (pW cC b5) e
     .exact Ms (rK (pW cC b5)) (L5 (pW cC b5)) (pW cC b5) a e
 |_=>intro fr H r he;exact he.elim
def D4{f:Nat}{c:dm}(cl:X f=true)(al:b1 f=some (.code c)){fst args cap:List V}(aq:(fst++args++cap).length<=c.ntmps){base:Nat}{H:ad}{r:fu}(h:gg (aR b1) (o2 b1 PP X) aN base (fun _ _=>True) c.body (ax c.ntmps (fL c.ntmps (fst++args++cap) 0)) H r):o2 b1 PP X (.fn f fst cap) args base H r:=by
 obtain⟨n,aJ⟩:=YY c.body h;refine⟨n+1,f,fst,cap,rfl,.inl ⟨cl,c,al,?_⟩⟩;rw[start_eq aq];exact aJ
def aDG{f:Nat}{fst args cap:List V}{base:Nat}{H:ad}{r:fu}(h:PP f (fst++args++cap) base H r):o2 b1 PP X (.fn f fst cap) args base H r:=⟨1,f,fst,cap,rfl,.inr h⟩
def dG{C:nx}{call:c5}{fK:rM}{it:hE}{base:Nat}{a b:bZ}{fr cw:List V}{H H1:ad}{r:fu}(h:aL call it base a fr H=some (.bR,cw,H1))(k:gg call fK it base C b cw H1 r):gg call fK it base C (.seq a b) fr H r:=.inr ⟨_,_,h,k⟩
def kW{C:nx}{call:c5}{fK:rM}{it:hE}{base:Nat}{a b:bZ}{fr:List V}{H:ad}{r:fu}(h:gg call fK it base C a fr H r):gg call fK it base C (.seq a b) fr H r:=.inl h
end
open Go.RowKit
section
variable {P:Program} {pure':fA} {b1:Nat->Option cz}
def EE{F:Fence}{n:Nat}{ops:Array Oper}{Q:Exit->Act->World->Prop}{i:Nat}{rest:List Nat}{a:Act}{w:World}{o:Oper}(aX:ops[i]?=some o)(a8:o.guard=none)(h:o.wpIn F n P a w (wpOpsIn F n P ops Q rest) Q):wpOpsIn F n P ops Q (i::rest) a w:=by
 rw[wpOpsIn_cons];unfold wpOpIn;simp only[aX]
 rw[bE (by simp[Region.wanted,a8])]
 exact h
def ZQ{μ:cp}{ae:Nat->Prop}{w:World}{fr:List V}{t:Array Value}(h:c7 μ ae w fr t):t.size=fr.length:=by
 have:=h.1
 grind
def Pb{aK:eX}{μ cf:cp}{ae b9:Nat->Prop}{w w':World}{H H':ad}{a:Act}{o:Oper}{d:Nat}{v:V}{r:Value}{fr:List V}(h:cE aK μ ae w H)(p:c8 aK μ ae w H cf b9 w' H')(al:c7 μ ae w fr a.tmps)(aQ:o.dst=some d)(av:bS cf b9 w' v r):c7 cf b9 w' (put (some d) v fr) (a.put o.dst r).tmps:=by
 rw[aQ];exact(al.post h p).put (some d) av
def aKC(fh:P.follows .mixedOrders=true)(jg:∀k c,b1 k=some c->iP P pure' k c){k Te m id:Nat}{fn:Func}{sf gz lO pR vO:Oper}{jR:TypeId}{z:List V}(al : P.funcs[k]? = some fn)(ah : fn.body = some (.region id #[sf, gz, lO, pR, vO] false))(r0 : (fn.name == "runtime.NumGoroutine") = false)(Iu : fn.ntmps = 6)(hg:qh P pure'.b sf=some (.move (.t 0)))(d0:sf.dst=some 2)(g0:sf.guard=none)(cj:qh P pure'.b gz=some (.call (.c (.fn Te [] [])) [.t 2]))(d1:gz.dst=some 3)(g1:gz.guard=none)(cZ:qh P pure'.b lO=some (.build z [(0,m)] [(0,.t 3)]))(bK:z.length=m)(d2:lO.dst=some 4)(g2:lO.guard=none)(cd:pR.op=.makeInterface jR (.tmp 4))(d3:pR.dst=some 5)(g3:pR.guard=none)(aOG:P.concrete jR=true)(fG:vO.op=.panic (.tmp 5))(g4:vO.guard=none):
 ∀(vs:List V) (base:Nat) (H:ad) (r:fu),(∃v cs H1 n,vs=[v]/\iq b1 n (.fn Te [] []) [v] base H=some (.agg cs,H1)/\cs.length=m/\cs.all V.one=true/\r=(jR,.agg cs,H1))->
   jC base H r.2.2/\(∀xs w,(callFunc k xs).run P w=.ok (.enter k xs) w)/\
   ∀μ ae w cs,cE (eU P pure') μ ae w H->b6 μ ae w vs cs->∀n,CallsIn Fence.wide n P k cs.toArray w (fun e w'=>∃dI,e=.panicked dI/\G7 (eU P pure') μ ae w H r dI w'):=by
 rintro vs base H r ⟨v,cs,H1,n,rfl,jx,dn,hM,rfl⟩;have ai:=DS fh jg n;refine⟨ai.floor _ _ _ _ _ _ jx,Go.Proofs.enters_of al r0 ah,fun μ ae w alD h db fS=>?_⟩
 obtain⟨bA,rfl⟩:∃bA,alD=[bA]:=by
  have:=db.1
  match alD,this with
  | [x],_=>exact⟨x,rfl⟩
 refine callsIn_of_wp_marks al ah trivial (wpIn_region ?_);have atj:bS μ ae w v bA:=db.2 0 v bA rfl rfl;obtain⟨a0,tB⟩:∃a0:Act,{ tmps:=[bA].toArray++Array.replicate (fn.ntmps - [bA].toArray.size) Go.undef,defers:=[] }=a0:=⟨_,rfl⟩
 have qq:c7 μ ae w [v,bF,bF,bF,bF,bF] a0.tmps:=by
  unfold c7;have:=db.append (IM (μ:=μ) (ae:=ae) (w:=w) 5);rw[<- tB,Iu]
  simpa using this
 have vZ:a0.defers=[]:=by rw[<- tB]
 rw[tB];show wpOpsIn (ix none) fS P #[sf,gz,lO,pR,vO] _ [0,1,2,3,4] a0 w;refine EE (o:=sf) rfl g0 (xi ai h qq (.inl hg) (base:=base) (v:=v) (H':=H) rfl ?_);rintro hU dv ⟨vf,ej,dY,Fi,aJ0,k7⟩;cases Fi;have f1:c7 ej dY dv [v,bF,v,bF,bF,bF] (a0.put sf.dst hU).tmps:=Pb h k7 qq d0 aJ0;obtain⟨bw,Oj⟩:∃bw,a0.put sf.dst hU=bw:=⟨_,rfl⟩;rw[Oj]at f1 |-;refine EE (o:=gz) rfl g1 (xi ai k7.ak f1 (.inl cj) (base:=base) (v:=.agg cs) (H':=H1) jx ?_);rintro bP bc ⟨bj,cH,cJ,nu,pX,cn⟩;cases nu;have f2:c7 cH cJ bc [v,bF,v,.agg cs,bF,bF] (bw.put gz.dst bP).tmps:=Pb k7.ak cn f1 d1 pX;obtain⟨a2,T9⟩:∃a2,bw.put gz.dst bP=a2:=⟨_,rfl⟩;rw[T9]at f2 |-
 have wq:bf (iq b1 n) base [v,bF,v,.agg cs,bF,bF] H1 (.build z [(0,m)] [(0,.t 3)])=some (.agg cs,H1):=by
  have oG:iQ z 0 cs=cs:=by
   unfold iQ
   simp_all
  simp only[bf,dW,hC,lC,aV,qt,kK,EG,V.cells,dn,bK,hM,mx,cq,qW,eW,oG]
 refine EE (o:=lO) rfl g2 (xi ai cn.ak f2 (.inl cZ) (base:=base) (v:=.agg cs) (H':=H1) wq ?_);rintro ca dJ ⟨aT,h',lU,mL,ku,dP⟩;cases mL;have f3:c7 h' lU dJ [v,bF,v,.agg cs,.agg cs,bF] (a2.put lO.dst ca).tmps:=Pb cn.ak dP f2 d2 ku;obtain⟨a3,adi⟩:∃a3,a2.put lO.dst ca=a3:=⟨_,rfl⟩;rw[adi]at f3 |-
 have aMT:a3.defers=[]:=by rw[<- adi,put_defers,<- T9,put_defers,<- Oj,put_defers,vZ]
 refine EE (o:=pR) rfl g3 ⟨fun _ _=>trivial,?_⟩
 rw[Oper.semAt_eq _ _ _ (by simp[cd])]
 have sa:∀(a:Act) (w:World),(execOp a.eval pR).run P w=.ok (.value (.iface jR (a.eval (.tmp 4)))) w:=by
  intro a w;unfold execOp;simp only[cd,Sem.run_bind,run_makeInterface w jR _ aOG,ev,Sem.run_pure]
 rw[sa];show wpOpsIn (ix none) fS P #[sf,gz,lO,pR,vO] _ [4] (a3.put pR.dst _) dJ;refine EE (o:=vO) rfl g4 ⟨fun _ _=>trivial,?_⟩
 rw[Oper.semAt_eq _ _ _ (by simp[fG])]
 have rl:∀(a:Act) (w:World) (T:TypeId) (x:Value),a.eval (.tmp 5)=.iface T x->(execOp a.eval vO).run P w=.halt (.panic (.iface T x)) w:=by
  intro a w T x af;unfold execOp;simp only[fG,af,Sem.run_bind,run_panic_iface];rfl
 have dk:=ZQ f3;simp only[c3,eh]at dk
 rw[rl _ _ jR (a3.eval (.tmp 4)) (by rw[d3];simp[Act.eval,Act.put,dk])]
 show LeavesInM Fence.wide fS P fn _ _ (a3.put pR.dst _).defers _ dJ;rw[put_defers,aMT];exact⟨_,rfl,_,h',lU,rfl,f3.getD 4,(k7.trans cn).trans dP⟩
end
end Go.ea
