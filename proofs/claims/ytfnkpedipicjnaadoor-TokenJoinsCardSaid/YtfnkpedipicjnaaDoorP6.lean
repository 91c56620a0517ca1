/- Texts of the proof: TokR3, TokR4, TokL1, TokL2. -/
import Derived.Test.YtfnkpedipicjnaaDoorP0
import Derived.Test.YtfnkpedipicjnaaDoorP1
import Derived.Test.YtfnkpedipicjnaaDoorP2
import Derived.Test.YtfnkpedipicjnaaDoorP3
import Derived.Test.YtfnkpedipicjnaaDoorP4
import Derived.Test.YtfnkpedipicjnaaDoorP5
set_option linter.all false
set_option maxRecDepth 100000
namespace Go.Proofs.YtfnkpedipicjnaaDoor
open Go.AM
structure TR (CT : Nat → Option CFun) : Prop where
  letter : CT k_gnomonref03_Letter = some (.code s_gnomonref03_Letter)
  digit : CT k_gnomonref03_Digit = some (.code s_gnomonref03_Digit)
  sign : CT k_gnomonref03_Sign = some (.code s_gnomonref03_Sign)
  spot : CT k_gnomonref03_Spot = some (.code s_gnomonref03_Spot)
structure RefSt (m : Nat) (H : Heap) (d : Nat) (v : V) (R : List (List V)) : Prop where
  res : ∃ x y, getC H d 0 = some [x, y]
  out : AccW m 5 H v R
  len : m ≤ H.length
  lt : d < m
def refE (b : ByteArray) (d : Nat) (v : V) (p : Nat) : Env := [(0, .s (.string b)), (3, .ref d 0 0), (5, v), (6, I p)]
theorem AccW.tr {m w : Nat} {H : Heap} {v : V} {R : List (List V)} (h : AccW m w H v R) {fr : List V} (hv : v ∈ fr) : AccW m w (Go.AM.trim m fr H) v R := by
  rcases AccW.trim_or h (Nat.le_refl _) hv with ⟨rfl, rfl⟩ | e
  · exact AccW.start _ _ _
  · rw [e]; exact h
theorem RefSt.tr {m : Nat} {H : Heap} {d : Nat} {v : V} {R : List (List V)} (h : RefSt m H d v R) {fr : List V} (hv : v ∈ fr) : RefSt m (Go.AM.trim m fr H) d v R := by
  obtain ⟨x, y, hd⟩ := h.res
  exact ⟨⟨x, y, trim_get hd h.lt⟩, AccW.tr h.out hv, trim_le h.len, h.lt⟩
theorem RefSt.app {m base : Nat} {H : Heap} {d : Nat} {v : V} {R : List (List V)} (h : RefSt m H d v R) (hbm : base ≤ m) (ob : Ob) {row : List V} (hrl : row.length = 5) (hr1 : row.all V.one = true) (hR : R.length ≤ 2 ^ 40) :
    ∃ v' C, appendV (H ++ [ob] ++ [Ob.cells 0 row]) base 5 48 v (.sl (H.length + 1) 0 0 1 5) = some (v', C) ∧ RefSt m C d v' (R ++ [row]) ∧ KeepD m [] H C := by
  have hmL := h.len
  obtain ⟨A, hA⟩ : ∃ A, H ++ [ob] = A := ⟨_, rfl⟩
  have lA : A.length = H.length + 1 := by rw [← hA]; simp
  have kA : ∀ id, id < H.length → A[id]? = H[id]? := fun id h1 => by rw [← hA, List.getElem?_append_left h1]
  rw [hA, ← lA]
  obtain ⟨B, hB⟩ : ∃ B, A ++ [Ob.cells 0 row] = B := ⟨_, rfl⟩
  have kB : ∀ id, id < H.length → B[id]? = H[id]? := fun id h1 => by rw [← hB, List.getElem?_append_left (by omega), kA id h1]
  have lB : B.length = H.length + 2 := by rw [← hB]; simp [lA]
  have hx : elems B 5 (.sl A.length 0 0 1 5) = some ([row].length, [row].flatten) := by
    rw [← hB]; exact (RdW.sl (R := [row]) (by simpa using getC_new A 0 row) (by intro r hr; simp at hr; subst hr; exact hrl)).el
  have hvB : AccW m 5 B v R := h.out.keep fun id g n e => kB id (h.out.lt id g n e)
  obtain ⟨v', C, eC, aC, lC, kC⟩ := hvB.append (base := base) (bytes := 48) (S := [row]) hbm (by omega) (by intro r hr; simp at hr; subst hr; exact hrl) (by simp) hx (by simpa using hr1) (by simp; omega)
  rw [hB]
  have kk : ∀ x, x < m → C[x]? = H[x]? := fun x hx => by
    rw [kC x (by omega) (fun g n e => ?_), kB x (by omega)]
    obtain ⟨_, ⟨_, rfl⟩ | ⟨id', g', rfl, _, hid'⟩⟩ := h.out
    · cases e
    · cases e; omega
  refine ⟨v', C, eC, ⟨?_, aC, by omega, h.lt⟩, by omega, fun x hx _ => kk x hx⟩
  obtain ⟨x, y, hd⟩ := h.res
  exact ⟨x, y, by unfold getC at hd ⊢; rw [kk d h.lt]; exact hd⟩
theorem far_behind {l : List UInt8} {p : Nat} {c x : UInt8} (hdr : l.drop p = c :: l.drop (p + 1)) (hx : l[p + (Tok.far Tok.digit (l.drop (p + 1)) + 1)]? = some x) : (Tok.letter x || x == 46) = decide (Tok.far Tok.digit (l.drop (p + 1)) < Tok.far Tok.within (l.drop (p + 1))) := by
  have hx2 : (l.drop (p + 1)).drop (Tok.far Tok.digit (l.drop (p + 1))) = x :: (l.drop (p + 1)).drop (Tok.far Tok.digit (l.drop (p + 1)) + 1) := by
    have h3 : (l.drop (p + 1))[Tok.far Tok.digit (l.drop (p + 1))]? = some x := by rw [List.getElem?_drop, show p + 1 + Tok.far Tok.digit (l.drop (p + 1)) = p + (Tok.far Tok.digit (l.drop (p + 1)) + 1) by omega]; exact hx
    obtain ⟨h4, h5⟩ := List.getElem?_eq_some_iff.1 h3
    rw [List.drop_eq_getElem_cons h4, h5]
  have hnd := Tok.far_stop Tok.digit _ hx2
  have hall : ∀ y ∈ (l.drop (p + 1)).take (Tok.far Tok.digit (l.drop (p + 1))), Tok.within y = true := fun y hy => by
    unfold Tok.within
    rw [Tok.far_take _ _ y hy]
    cases Tok.letter y <;> rfl
  have e := Tok.far_all Tok.within _ (x :: (l.drop (p + 1)).drop (Tok.far Tok.digit (l.drop (p + 1)) + 1)) hall
  rw [← hx2, List.take_append_drop, Tok.far_len, hx2] at e
  rw [e, Bool.eq_iff_iff, decide_eq_true_iff]
  unfold Tok.far
  have hw : Tok.within x = (Tok.letter x || x == 46) := by
    unfold Tok.within
    rw [hnd, Bool.or_false]
  rw [hw]
  cases (Tok.letter x || x == 46) <;> simp
section
variable {CT : Nat → Option CFun}
theorem ref_blank (T : TR CT) {base m : Nat} {b : ByteArray} (hb : b.size ≤ 2 ^ 40) {d : Nat} (hbd : base ≤ d) (hbm : base ≤ m) {H : Heap} {v : V} {ln cl p : Nat} {R : List (List V)} (st : RefSt m H d v R) (hR : R.length ≤ p) {c : UInt8} (hx : b.data.toList[p]? = some c) (hsp : Tok.spotL (b.data.toList.take p) (1, 1) = (ln, cl)) (hbl : Tok.blank c = true) :
    ∃ H', itW (evC (callW CT) itW base s_gnomonref03_Lex_l3) [55] m (frOf 197 (refE b d v p)) H = itW (evC (callW CT) itW base s_gnomonref03_Lex_l3) [55] m (frOf 197 (refE b d v (p + 1))) H' ∧ RefSt m H' d v R ∧ KeepD m [] H H' := by
  have hlt : p < b.size := (List.getElem?_eq_some_iff.1 hx).1
  have hlt' : ((p : Int) < (b.size : Int)) := by omega
  have hdr : b.data.toList.drop p = c :: b.data.toList.drop (p + 1) := by
    rw [List.drop_eq_getElem_cons hlt, (List.getElem?_eq_some_iff.1 hx).2]
  have hL := rletter_fun T.letter
  have hD := rdigit_fun T.digit
  have hS := rsign_fun T.sign c
  have hmL := st.len
  have hspot := fun (H : Heap) (hH : base ≤ H.length) => spot_fun T.spot base H hH hb (q := p) (by omega)
  simp only [hsp] at hspot
  have w := w64_nat (n := p) (by omega)
  have ten := ten_m c
  have b32 : ((c.toNat : Int) == 32) = (c == 32) := by rw [Bool.eq_iff_iff, beq_iff_eq, beq_iff_eq, byte_ne]; rfl
  have b9 : ((c.toNat : Int) == 9) = (c == 9) := by rw [Bool.eq_iff_iff, beq_iff_eq, beq_iff_eq, byte_ne]; rfl
  have b13 : ((c.toNat : Int) == 13) = (c == 13) := by rw [Bool.eq_iff_iff, beq_iff_eq, beq_iff_eq, byte_ne]; rfl
  have b10 : ((c.toNat : Int) == 10) = (c == 10) := by rw [Bool.eq_iff_iff, beq_iff_eq, beq_iff_eq, byte_ne]; rfl
  refine ⟨_, ?_, st.tr (fr := frOf 197 (refE b d v (p + 1))) (frOf_mem (s := 5) (by decide) rfl), KeepD.tr (A := H) ⟨hmL, fun _ _ _ => rfl⟩ _⟩
  have nb := hbl
  unfold Tok.blank at nb
  rw [itW_step]
  cases n32 : c == 32 with
  | true => simp only [lexE, nilS, refE, I, a_gnomonref03_Lex,s_gnomonref03_Lex_l0_b,s_gnomonref03_Lex_l1_b,s_gnomonref03_Lex_l2_b,s_gnomonref03_Lex_l3_b, am0,am1,am2,am3,am4,am5,am6,am7,bl,i64,reduceIte,reduceCtorEq,Nat.reduceEqDiff,Nat.reduceLT,Nat.reduceLeDiff,Nat.reduceBEq,Nat.reduceAdd,fillA,splice,Nat.reduceMul,al0,al1,al2,al3,al4,al5,al6,al7,al8,al9,al10,al11,al12,al13,al14,al15,al16,al17,al18,al19,al20,al21,al22,al23,al24,al25,al26,al27,al28,al29,al30,al31,al32,al33,al34,amY,op_eqP, hlt', hx, w, b32, n32]
  | false =>
    cases n9 : c == 9 with
    | true => simp only [lexE, nilS, refE, I, a_gnomonref03_Lex,s_gnomonref03_Lex_l0_b,s_gnomonref03_Lex_l1_b,s_gnomonref03_Lex_l2_b,s_gnomonref03_Lex_l3_b, am0,am1,am2,am3,am4,am5,am6,am7,bl,i64,reduceIte,reduceCtorEq,Nat.reduceEqDiff,Nat.reduceLT,Nat.reduceLeDiff,Nat.reduceBEq,Nat.reduceAdd,fillA,splice,Nat.reduceMul,al0,al1,al2,al3,al4,al5,al6,al7,al8,al9,al10,al11,al12,al13,al14,al15,al16,al17,al18,al19,al20,al21,al22,al23,al24,al25,al26,al27,al28,al29,al30,al31,al32,al33,al34,amY,op_eqP, hlt', hx, w, b32, n32, b9, n9]
    | false =>
      cases n13 : c == 13 with
      | true => simp only [lexE, nilS, refE, I, a_gnomonref03_Lex,s_gnomonref03_Lex_l0_b,s_gnomonref03_Lex_l1_b,s_gnomonref03_Lex_l2_b,s_gnomonref03_Lex_l3_b, am0,am1,am2,am3,am4,am5,am6,am7,bl,i64,reduceIte,reduceCtorEq,Nat.reduceEqDiff,Nat.reduceLT,Nat.reduceLeDiff,Nat.reduceBEq,Nat.reduceAdd,fillA,splice,Nat.reduceMul,al0,al1,al2,al3,al4,al5,al6,al7,al8,al9,al10,al11,al12,al13,al14,al15,al16,al17,al18,al19,al20,al21,al22,al23,al24,al25,al26,al27,al28,al29,al30,al31,al32,al33,al34,amY,op_eqP, hlt', hx, w, b32, n32, b9, n9, b13, n13]
      | false =>
        have n10 : (c == 10) = true := by simpa only [n32, n9, n13, Bool.false_or] using nb
        simp only [lexE, nilS, refE, I, a_gnomonref03_Lex,s_gnomonref03_Lex_l0_b,s_gnomonref03_Lex_l1_b,s_gnomonref03_Lex_l2_b,s_gnomonref03_Lex_l3_b, am0,am1,am2,am3,am4,am5,am6,am7,bl,i64,reduceIte,reduceCtorEq,Nat.reduceEqDiff,Nat.reduceLT,Nat.reduceLeDiff,Nat.reduceBEq,Nat.reduceAdd,fillA,splice,Nat.reduceMul,al0,al1,al2,al3,al4,al5,al6,al7,al8,al9,al10,al11,al12,al13,al14,al15,al16,al17,al18,al19,al20,al21,al22,al23,al24,al25,al26,al27,al28,al29,al30,al31,al32,al33,al34,amY,op_eqP, hlt', hx, w, b32, n32, b9, n9, b13, n13, b10, n10]
theorem ref_comment (T : TR CT) {base m : Nat} {b : ByteArray} (hb : b.size ≤ 2 ^ 40) {d : Nat} (hbd : base ≤ d) (hbm : base ≤ m) {H : Heap} {v : V} {ln cl p : Nat} {R : List (List V)} (st : RefSt m H d v R) (hR : R.length ≤ p) {c : UInt8} (hx : b.data.toList[p]? = some c) (hsp : Tok.spotL (b.data.toList.take p) (1, 1) = (ln, cl)) (hbl : Tok.blank c = false) (h59 : c = 59) :
    ∃ H', itW (evC (callW CT) itW base s_gnomonref03_Lex_l3) [55] m (frOf 197 (refE b d v p)) H = itW (evC (callW CT) itW base s_gnomonref03_Lex_l3) [55] m (frOf 197 (refE b d v (p + (Tok.far Tok.other (b.data.toList.drop (p + 1)) + 1)))) H' ∧ RefSt m H' d v R ∧ KeepD m [] H H' := by
  have hlt : p < b.size := (List.getElem?_eq_some_iff.1 hx).1
  have hlt' : ((p : Int) < (b.size : Int)) := by omega
  have hdr : b.data.toList.drop p = c :: b.data.toList.drop (p + 1) := by
    rw [List.drop_eq_getElem_cons hlt, (List.getElem?_eq_some_iff.1 hx).2]
  have hL := rletter_fun T.letter
  have hD := rdigit_fun T.digit
  have hS := rsign_fun T.sign c
  have hmL := st.len
  have hspot := fun (H : Heap) (hH : base ≤ H.length) => spot_fun T.spot base H hH hb (q := p) (by omega)
  simp only [hsp] at hspot
  have w := w64_nat (n := p) (by omega)
  have ten := ten_m c
  have b32 : ((c.toNat : Int) == 32) = (c == 32) := by rw [Bool.eq_iff_iff, beq_iff_eq, beq_iff_eq, byte_ne]; rfl
  have b9 : ((c.toNat : Int) == 9) = (c == 9) := by rw [Bool.eq_iff_iff, beq_iff_eq, beq_iff_eq, byte_ne]; rfl
  have b13 : ((c.toNat : Int) == 13) = (c == 13) := by rw [Bool.eq_iff_iff, beq_iff_eq, beq_iff_eq, byte_ne]; rfl
  have b10 : ((c.toNat : Int) == 10) = (c == 10) := by rw [Bool.eq_iff_iff, beq_iff_eq, beq_iff_eq, byte_ne]; rfl
  have hl := rcomment_loop (CT := CT) base hb (d := d) (v := v) (H := H) (b.data.toList.drop p) p rfl (by omega)
  rw [hdr, Tok.far, if_pos (by rw [h59]; decide)] at hl
  refine ⟨_, ?_, st.tr (fr := frOf 197 (refE b d v (p + (Tok.far Tok.other (b.data.toList.drop (p + 1)) + 1)))) (frOf_mem (s := 5) (by decide) rfl), KeepD.tr (A := H) ⟨hmL, fun _ _ _ => rfl⟩ _⟩
  have h59' : ((c.toNat : Int) == 59) = true := by rw [h59]; rfl
  have nb := hbl
  unfold Tok.blank at nb
  simp only [Bool.or_eq_false_iff] at nb
  obtain ⟨⟨⟨n32, n9⟩, n13⟩, n10⟩ := nb
  rw [itW_step]
  simp only [I] at hl
  simp only [lexE, nilS, refE, I, a_gnomonref03_Lex,s_gnomonref03_Lex_l0_b,s_gnomonref03_Lex_l1_b,s_gnomonref03_Lex_l2_b,s_gnomonref03_Lex_l3_b, am0,am1,am2,am3,am4,am5,am6,am7,bl,i64,reduceIte,reduceCtorEq,Nat.reduceEqDiff,Nat.reduceLT,Nat.reduceLeDiff,Nat.reduceBEq,Nat.reduceAdd,fillA,splice,Nat.reduceMul,al0,al1,al2,al3,al4,al5,al6,al7,al8,al9,al10,al11,al12,al13,al14,al15,al16,al17,al18,al19,al20,al21,al22,al23,al24,al25,al26,al27,al28,al29,al30,al31,al32,al33,al34,amY,op_eqP, hlt', hx, w, b32, n32, b9, n9, b13, n13, b10, n10, h59', hl]
theorem ref_name (T : TR CT) {base m : Nat} {b : ByteArray} (hb : b.size ≤ 2 ^ 40) {d : Nat} (hbd : base ≤ d) (hbm : base ≤ m) {H : Heap} {v : V} {ln cl p : Nat} {R : List (List V)} (st : RefSt m H d v R) (hR : R.length ≤ p) {c : UInt8} (hx : b.data.toList[p]? = some c) (hsp : Tok.spotL (b.data.toList.take p) (1, 1) = (ln, cl)) (hbl : Tok.blank c = false) (h59 : c ≠ 59) (hlt1 : Tok.letter c = true) :
    ∃ v' H', itW (evC (callW CT) itW base s_gnomonref03_Lex_l3) [55] m (frOf 197 (refE b d v p)) H = itW (evC (callW CT) itW base s_gnomonref03_Lex_l3) [55] m (frOf 197 (refE b d v' (p + (Tok.far Tok.within (b.data.toList.drop (p + 1)) + 1)))) H' ∧ RefSt m H' d v' (R ++ [tV ⟨1, c :: (b.data.toList.drop (p + 1)).take (Tok.far Tok.within (b.data.toList.drop (p + 1))), 0, ln, cl⟩]) ∧ KeepD m [] H H' := by
  have hlt : p < b.size := (List.getElem?_eq_some_iff.1 hx).1
  have hlt' : ((p : Int) < (b.size : Int)) := by omega
  have hdr : b.data.toList.drop p = c :: b.data.toList.drop (p + 1) := by
    rw [List.drop_eq_getElem_cons hlt, (List.getElem?_eq_some_iff.1 hx).2]
  have hL := rletter_fun T.letter
  have hD := rdigit_fun T.digit
  have hS := rsign_fun T.sign c
  have hmL := st.len
  have hspot := fun (H : Heap) (hH : base ≤ H.length) => spot_fun T.spot base H hH hb (q := p) (by omega)
  simp only [hsp] at hspot
  have w := w64_nat (n := p) (by omega)
  have ten := ten_m c
  have b32 : ((c.toNat : Int) == 32) = (c == 32) := by rw [Bool.eq_iff_iff, beq_iff_eq, beq_iff_eq, byte_ne]; rfl
  have b9 : ((c.toNat : Int) == 9) = (c == 9) := by rw [Bool.eq_iff_iff, beq_iff_eq, beq_iff_eq, byte_ne]; rfl
  have b13 : ((c.toNat : Int) == 13) = (c == 13) := by rw [Bool.eq_iff_iff, beq_iff_eq, beq_iff_eq, byte_ne]; rfl
  have b10 : ((c.toNat : Int) == 10) = (c == 10) := by rw [Bool.eq_iff_iff, beq_iff_eq, beq_iff_eq, byte_ne]; rfl
  have h59' : ((c.toNat : Int) == 59) = false := by rw [beq_eq_false_iff_ne]; intro e; exact h59 ((byte_ne c 59).2 e)
  have nb := hbl
  unfold Tok.blank at nb
  simp only [Bool.or_eq_false_iff] at nb
  obtain ⟨⟨⟨n32, n9⟩, n13⟩, n10⟩ := nb
  have hw : Tok.within c = true := by unfold Tok.within; rw [hlt1]; rfl
  have hfl := Tok.far_le Tok.within (b.data.toList.drop (p + 1))
  rw [List.length_drop, show b.data.toList.length = b.size from rfl] at hfl
  have hl := fun w8 => rname_loop hL hD base hb (d := d) (v := v) (w8 := w8) (H := H) (b.data.toList.drop p) p rfl (by omega)
  simp only [hdr, Tok.far, if_pos hw, I] at hl
  have hle : (0 ≤ (p : Int) ∧ (p : Int) ≤ ((p + (Tok.far Tok.within (b.data.toList.drop (p + 1)) + 1) : Nat) : Int) ∧ ((p + (Tok.far Tok.within (b.data.toList.drop (p + 1)) + 1) : Nat) : Int) ≤ (b.size : Int)) := by omega
  have hex := extract_eq b p (Tok.far Tok.within (b.data.toList.drop (p + 1)) + 1)
  rw [hdr, List.take_succ_cons] at hex
  obtain ⟨v', C, eC, sC, kC⟩ := st.app hbm (Ob.cells 0 [V.s (.int .i64 ln), V.s (.int .i64 cl)]) (row := tV ⟨1, c :: (b.data.toList.drop (p + 1)).take (Tok.far Tok.within (b.data.toList.drop (p + 1))), 0, ln, cl⟩) rfl rfl (by omega)
  have eC' : appendV (H ++ [Ob.cells 0 [V.s (.int .i64 ln), V.s (.int .i64 cl)]] ++ [Ob.cells 0 [V.s (.int .u8 1), V.s (.string ⟨(c :: (b.data.toList.drop (p + 1)).take (Tok.far Tok.within (b.data.toList.drop (p + 1)))).toArray⟩), V.s (.int .i64 0), V.s (.int .i64 ln), V.s (.int .i64 cl)]]) base 5 48 v (.sl (H.length + 1) 0 0 1 5) = some (v', C) := eC
  refine ⟨v', _, ?_, sC.tr (fr := frOf 197 (refE b d v' (p + (Tok.far Tok.within (b.data.toList.drop (p + 1)) + 1)))) (frOf_mem (s := 5) (by decide) rfl), KeepD.tr kC _⟩
  rw [itW_step]
  have hbH : base ≤ H.length := by omega
  simp only [lexE, nilS, refE, I, a_gnomonref03_Lex,s_gnomonref03_Lex_l0_b,s_gnomonref03_Lex_l1_b,s_gnomonref03_Lex_l2_b,s_gnomonref03_Lex_l3_b, am0,am1,am2,am3,am4,am5,am6,am7,bl,i64,reduceIte,reduceCtorEq,Nat.reduceEqDiff,Nat.reduceLT,Nat.reduceLeDiff,Nat.reduceBEq,Nat.reduceAdd,fillA,splice,Nat.reduceMul,al0,al1,al2,al3,al4,al5,al6,al7,al8,al9,al10,al11,al12,al13,al14,al15,al16,al17,al18,al19,al20,al21,al22,al23,al24,al25,al26,al27,al28,al29,al30,al31,al32,al33,al34,amY,op_eqP, hlt', hx, w, b32, n32, b9, n9, b13, n13, b10, n10, h59', hL, hlt1, hl, hspot H hbH, xsub_str, xsub_build, hle, hex, eC']
theorem ref_sign (T : TR CT) {base m : Nat} {b : ByteArray} (hb : b.size ≤ 2 ^ 40) {d : Nat} (hbd : base ≤ d) (hbm : base ≤ m) {H : Heap} {v : V} {ln cl p : Nat} {R : List (List V)} (st : RefSt m H d v R) (hR : R.length ≤ p) {c : UInt8} (hx : b.data.toList[p]? = some c) (hsp : Tok.spotL (b.data.toList.take p) (1, 1) = (ln, cl)) (hbl : Tok.blank c = false) (h59 : c ≠ 59) (hlt1 : Tok.letter c = false) (hdg : Tok.digit c = false) (hsg : Tok.sign c = true) :
    ∃ v' H', itW (evC (callW CT) itW base s_gnomonref03_Lex_l3) [55] m (frOf 197 (refE b d v p)) H = itW (evC (callW CT) itW base s_gnomonref03_Lex_l3) [55] m (frOf 197 (refE b d v' (p + 1))) H' ∧ RefSt m H' d v' (R ++ [tV ⟨3, [c], 0, ln, cl⟩]) ∧ KeepD m [] H H' := by
  have hlt : p < b.size := (List.getElem?_eq_some_iff.1 hx).1
  have hlt' : ((p : Int) < (b.size : Int)) := by omega
  have hdr : b.data.toList.drop p = c :: b.data.toList.drop (p + 1) := by
    rw [List.drop_eq_getElem_cons hlt, (List.getElem?_eq_some_iff.1 hx).2]
  have hL := rletter_fun T.letter
  have hD := rdigit_fun T.digit
  have hS := rsign_fun T.sign c
  have hmL := st.len
  have hspot := fun (H : Heap) (hH : base ≤ H.length) => spot_fun T.spot base H hH hb (q := p) (by omega)
  simp only [hsp] at hspot
  have w := w64_nat (n := p) (by omega)
  have ten := ten_m c
  have b32 : ((c.toNat : Int) == 32) = (c == 32) := by rw [Bool.eq_iff_iff, beq_iff_eq, beq_iff_eq, byte_ne]; rfl
  have b9 : ((c.toNat : Int) == 9) = (c == 9) := by rw [Bool.eq_iff_iff, beq_iff_eq, beq_iff_eq, byte_ne]; rfl
  have b13 : ((c.toNat : Int) == 13) = (c == 13) := by rw [Bool.eq_iff_iff, beq_iff_eq, beq_iff_eq, byte_ne]; rfl
  have b10 : ((c.toNat : Int) == 10) = (c == 10) := by rw [Bool.eq_iff_iff, beq_iff_eq, beq_iff_eq, byte_ne]; rfl
  have h59' : ((c.toNat : Int) == 59) = false := by rw [beq_eq_false_iff_ne]; intro e; exact h59 ((byte_ne c 59).2 e)
  have nb := hbl
  unfold Tok.blank at nb
  simp only [Bool.or_eq_false_iff] at nb
  obtain ⟨⟨⟨n32, n9⟩, n13⟩, n10⟩ := nb
  have hle : (0 ≤ (p : Int) ∧ (p : Int) ≤ ((p + 1 : Nat) : Int) ∧ ((p + 1 : Nat) : Int) ≤ (b.size : Int)) := by omega
  have hex := extract_eq b p 1
  rw [hdr, List.take_succ_cons, List.take_zero] at hex
  obtain ⟨v', C, eC, sC, kC⟩ := st.app hbm (Ob.cells 0 [V.s (.int .i64 ln), V.s (.int .i64 cl)]) (row := tV ⟨3, [c], 0, ln, cl⟩) rfl rfl (by omega)
  have eC' : appendV (H ++ [Ob.cells 0 [V.s (.int .i64 ln), V.s (.int .i64 cl)]] ++ [Ob.cells 0 [V.s (.int .u8 3), V.s (.string ⟨#[c]⟩), V.s (.int .i64 0), V.s (.int .i64 ln), V.s (.int .i64 cl)]]) base 5 48 v (.sl (H.length + 1) 0 0 1 5) = some (v', C) := eC
  refine ⟨v', _, ?_, sC.tr (fr := frOf 197 (refE b d v' (p + 1))) (frOf_mem (s := 5) (by decide) rfl), KeepD.tr kC _⟩
  rw [itW_step]
  have hbH : base ≤ H.length := by omega
  simp only [lexE, nilS, refE, I, a_gnomonref03_Lex,s_gnomonref03_Lex_l0_b,s_gnomonref03_Lex_l1_b,s_gnomonref03_Lex_l2_b,s_gnomonref03_Lex_l3_b, am0,am1,am2,am3,am4,am5,am6,am7,bl,i64,reduceIte,reduceCtorEq,Nat.reduceEqDiff,Nat.reduceLT,Nat.reduceLeDiff,Nat.reduceBEq,Nat.reduceAdd,fillA,splice,Nat.reduceMul,al0,al1,al2,al3,al4,al5,al6,al7,al8,al9,al10,al11,al12,al13,al14,al15,al16,al17,al18,al19,al20,al21,al22,al23,al24,al25,al26,al27,al28,al29,al30,al31,al32,al33,al34,amY,op_eqP, hlt', hx, w, b32, n32, b9, n9, b13, n13, b10, n10, h59', hL, hlt1, hD, hdg, hS, hsg, hspot H hbH, xsub_str, xsub_build, hle, hex, eC']
theorem ref_byte (T : TR CT) {base m : Nat} {b : ByteArray} (hb : b.size ≤ 2 ^ 40) {d : Nat} (hbd : base ≤ d) (hbm : base ≤ m) {H : Heap} {v : V} {ln cl p : Nat} {R : List (List V)} (st : RefSt m H d v R) (hR : R.length ≤ p) {c : UInt8} (hx : b.data.toList[p]? = some c) (hsp : Tok.spotL (b.data.toList.take p) (1, 1) = (ln, cl)) (hbl : Tok.blank c = false) (h59 : c ≠ 59) (hlt1 : Tok.letter c = false) (hdg : Tok.digit c = false) (hsg : Tok.sign c = false) :
    ∃ H', itW (evC (callW CT) itW base s_gnomonref03_Lex_l3) [55] m (frOf 197 (refE b d v p)) H = some (.ret, frOf 197 [(2, nilS), (3, .ref d 0 0), (4, .s (.int .i64 30))], H') ∧ getC H' d 0 = some [I ln, I cl] ∧ KeepD m [d] H H' := by
  have hlt : p < b.size := (List.getElem?_eq_some_iff.1 hx).1
  have hlt' : ((p : Int) < (b.size : Int)) := by omega
  have hdr : b.data.toList.drop p = c :: b.data.toList.drop (p + 1) := by
    rw [List.drop_eq_getElem_cons hlt, (List.getElem?_eq_some_iff.1 hx).2]
  have hL := rletter_fun T.letter
  have hD := rdigit_fun T.digit
  have hS := rsign_fun T.sign c
  have hmL := st.len
  have hspot := fun (H : Heap) (hH : base ≤ H.length) => spot_fun T.spot base H hH hb (q := p) (by omega)
  simp only [hsp] at hspot
  have w := w64_nat (n := p) (by omega)
  have ten := ten_m c
  have b32 : ((c.toNat : Int) == 32) = (c == 32) := by rw [Bool.eq_iff_iff, beq_iff_eq, beq_iff_eq, byte_ne]; rfl
  have b9 : ((c.toNat : Int) == 9) = (c == 9) := by rw [Bool.eq_iff_iff, beq_iff_eq, beq_iff_eq, byte_ne]; rfl
  have b13 : ((c.toNat : Int) == 13) = (c == 13) := by rw [Bool.eq_iff_iff, beq_iff_eq, beq_iff_eq, byte_ne]; rfl
  have b10 : ((c.toNat : Int) == 10) = (c == 10) := by rw [Bool.eq_iff_iff, beq_iff_eq, beq_iff_eq, byte_ne]; rfl
  have h59' : ((c.toNat : Int) == 59) = false := by rw [beq_eq_false_iff_ne]; intro e; exact h59 ((byte_ne c 59).2 e)
  have nb := hbl
  unfold Tok.blank at nb
  simp only [Bool.or_eq_false_iff] at nb
  obtain ⟨⟨⟨n32, n9⟩, n13⟩, n10⟩ := nb
  obtain ⟨x, y, hd⟩ := st.res
  have hdm := st.lt
  have hdH : getC (H ++ [Ob.cells 0 [V.s (.int .i64 ln), V.s (.int .i64 cl)]]) d 0 = some [x, y] := getC_app hd
  obtain ⟨s1, s2⟩ := bad_end (m := m) (by simp; omega) hdH hdm (frOf 197 [(2, nilS), (3, .ref d 0 0), (4, .s (.int .i64 30))]) [I ln, I cl]
  have s3 : KeepD m [d] H (Go.AM.trim m (frOf 197 [(2, nilS), (3, .ref d 0 0), (4, .s (.int .i64 30))]) ((H ++ [Ob.cells 0 [V.s (.int .i64 ln), V.s (.int .i64 cl)]]).set d (.cells 0 [I ln, I cl]))) := ⟨s2.1, fun id h1 h2 => by rw [s2.2 id h1 h2, List.getElem?_append_left (by omega)]⟩
  refine ⟨_, ?_, s1, s3⟩
  rw [itW_step]
  have hbH : base ≤ H.length := by omega
  simp only [lexE, nilS, refE, I, a_gnomonref03_Lex,s_gnomonref03_Lex_l0_b,s_gnomonref03_Lex_l1_b,s_gnomonref03_Lex_l2_b,s_gnomonref03_Lex_l3_b, am0,am1,am2,am3,am4,am5,am6,am7,bl,i64,reduceIte,reduceCtorEq,Nat.reduceEqDiff,Nat.reduceLT,Nat.reduceLeDiff,Nat.reduceBEq,Nat.reduceAdd,fillA,splice,Nat.reduceMul,al0,al1,al2,al3,al4,al5,al6,al7,al8,al9,al10,al11,al12,al13,al14,al15,al16,al17,al18,al19,al20,al21,al22,al23,al24,al25,al26,al27,al28,al29,al30,al31,al32,al33,al34,amY,op_eqP, hlt', hx, w, b32, n32, b9, n9, b13, n13, b10, n10, h59', hL, hlt1, hD, hdg, hS, hsg, hspot H hbH, hdH, hbd]
theorem ref_num_bad (T : TR CT) {base m : Nat} {b : ByteArray} (hb : b.size ≤ 2 ^ 40) {d : Nat} (hbd : base ≤ d) (hbm : base ≤ m) {H : Heap} {v : V} {ln cl p : Nat} {R : List (List V)} (st : RefSt m H d v R) (hR : R.length ≤ p) {c : UInt8} (hx : b.data.toList[p]? = some c) (hsp : Tok.spotL (b.data.toList.take p) (1, 1) = (ln, cl)) (hbl : Tok.blank c = false) (h59 : c ≠ 59) (hlt1 : Tok.letter c = false) (hdg : Tok.digit c = true) (hco : (9 < Tok.far Tok.digit (b.data.toList.drop (p + 1)) + 1 ∨ (1 < Tok.far Tok.digit (b.data.toList.drop (p + 1)) + 1 ∧ c = 48) ∨ Tok.far Tok.digit (b.data.toList.drop (p + 1)) < Tok.far Tok.within (b.data.toList.drop (p + 1)))) :
    ∃ H', itW (evC (callW CT) itW base s_gnomonref03_Lex_l3) [55] m (frOf 197 (refE b d v p)) H = some (.ret, frOf 197 [(2, nilS), (3, .ref d 0 0), (4, .s (.int .i64 31))], H') ∧ getC H' d 0 = some [I ln, I cl] ∧ KeepD m [d] H H' := by
  have hlt : p < b.size := (List.getElem?_eq_some_iff.1 hx).1
  have hlt' : ((p : Int) < (b.size : Int)) := by omega
  have hdr : b.data.toList.drop p = c :: b.data.toList.drop (p + 1) := by
    rw [List.drop_eq_getElem_cons hlt, (List.getElem?_eq_some_iff.1 hx).2]
  have hL := rletter_fun T.letter
  have hD := rdigit_fun T.digit
  have hS := rsign_fun T.sign c
  have hmL := st.len
  have hspot := fun (H : Heap) (hH : base ≤ H.length) => spot_fun T.spot base H hH hb (q := p) (by omega)
  simp only [hsp] at hspot
  have w := w64_nat (n := p) (by omega)
  have ten := ten_m c
  have b32 : ((c.toNat : Int) == 32) = (c == 32) := by rw [Bool.eq_iff_iff, beq_iff_eq, beq_iff_eq, byte_ne]; rfl
  have b9 : ((c.toNat : Int) == 9) = (c == 9) := by rw [Bool.eq_iff_iff, beq_iff_eq, beq_iff_eq, byte_ne]; rfl
  have b13 : ((c.toNat : Int) == 13) = (c == 13) := by rw [Bool.eq_iff_iff, beq_iff_eq, beq_iff_eq, byte_ne]; rfl
  have b10 : ((c.toNat : Int) == 10) = (c == 10) := by rw [Bool.eq_iff_iff, beq_iff_eq, beq_iff_eq, byte_ne]; rfl
  have h59' : ((c.toNat : Int) == 59) = false := by rw [beq_eq_false_iff_ne]; intro e; exact h59 ((byte_ne c 59).2 e)
  have nb := hbl
  unfold Tok.blank at nb
  simp only [Bool.or_eq_false_iff] at nb
  obtain ⟨⟨⟨n32, n9⟩, n13⟩, n10⟩ := nb
  have hfl := Tok.far_le Tok.digit (b.data.toList.drop (p + 1))
  rw [List.length_drop, show b.data.toList.length = b.size from rfl] at hfl
  have hl := fun w7 => rdigit_loop hD base hb (d := d) (v := v) (w7 := w7) (from' := p) (H := H) (b.data.toList.drop p) 0 0 rfl (by omega) (by decide)
  simp only [hdr, Tok.far, if_pos hdg, I, Nat.zero_add, Nat.add_zero, show ((0 : Nat) : Int) = 0 from rfl] at hl
  have wf : IntKind.i64.wrap (((p + (Tok.far Tok.digit (b.data.toList.drop (p + 1)) + 1) : Nat) : Int) - (p : Int)) = ((Tok.far Tok.digit (b.data.toList.drop (p + 1)) + 1 : Nat) : Int) := by rw [IntKind.wrap_i64]; omega
  have h48 : ((c.toNat : Int) == 48) = decide (c = 48) := by rw [Bool.eq_iff_iff, beq_iff_eq, decide_eq_true_iff, byte_ne]; rfl
  have q1 : decide ((((Tok.far Tok.digit (b.data.toList.drop (p + 1)) + 1 : Nat) : Int)) > 9) = decide (9 < Tok.far Tok.digit (b.data.toList.drop (p + 1)) + 1) := by rw [Bool.eq_iff_iff, decide_eq_true_iff, decide_eq_true_iff]; omega
  have q2 : decide ((((Tok.far Tok.digit (b.data.toList.drop (p + 1)) + 1 : Nat) : Int)) > 1) = decide (1 < Tok.far Tok.digit (b.data.toList.drop (p + 1)) + 1) := by rw [Bool.eq_iff_iff, decide_eq_true_iff, decide_eq_true_iff]; omega
  have hbH : base ≤ H.length := by omega
  obtain ⟨nv, hnv⟩ : ∃ nv, nval 0 0 (c :: b.data.toList.drop (p + 1)) = nv := ⟨_, rfl⟩
  simp only [hnv] at hl
  have hbeh : ∀ (hz : p + (Tok.far Tok.digit (b.data.toList.drop (p + 1)) + 1) = b.size) , ¬ (Tok.far Tok.digit (b.data.toList.drop (p + 1)) < Tok.far Tok.within (b.data.toList.drop (p + 1))) := by
    intro hz h
    have := Tok.far_le Tok.within (b.data.toList.drop (p + 1))
    rw [List.length_drop, show b.data.toList.length = b.size from rfl] at this
    omega
  have hbe2 : ∀ x, b.data.toList[p + (Tok.far Tok.digit (b.data.toList.drop (p + 1)) + 1)]? = some x → (Tok.letter x || x == 46) = decide (Tok.far Tok.digit (b.data.toList.drop (p + 1)) < Tok.far Tok.within (b.data.toList.drop (p + 1))) := fun x hx => far_behind hdr hx
  obtain ⟨x, y, hd⟩ := st.res
  have hdm := st.lt
  have hdH : getC (H ++ [Ob.cells 0 [V.s (.int .i64 ln), V.s (.int .i64 cl)]]) d 0 = some [x, y] := getC_app hd
  obtain ⟨s1, s2⟩ := bad_end (m := m) (by simp; omega) hdH hdm (frOf 197 [(2, nilS), (3, .ref d 0 0), (4, .s (.int .i64 31))]) [I ln, I cl]
  have s3 : KeepD m [d] H (Go.AM.trim m (frOf 197 [(2, nilS), (3, .ref d 0 0), (4, .s (.int .i64 31))]) ((H ++ [Ob.cells 0 [V.s (.int .i64 ln), V.s (.int .i64 cl)]]).set d (.cells 0 [I ln, I cl]))) := ⟨s2.1, fun id h1 h2 => by rw [s2.2 id h1 h2, List.getElem?_append_left (by omega)]⟩
  refine ⟨_, ?_, s1, s3⟩
  rw [itW_step]
  have hcb : (decide (9 < Tok.far Tok.digit (b.data.toList.drop (p + 1)) + 1) || decide (1 < Tok.far Tok.digit (b.data.toList.drop (p + 1)) + 1) && decide (c = 48) || decide (Tok.far Tok.digit (b.data.toList.drop (p + 1)) < Tok.far Tok.within (b.data.toList.drop (p + 1)))) = true := by
    simp only [Bool.or_eq_true, Bool.and_eq_true, decide_eq_true_eq, or_assoc]; exact hco
  by_cases hz : p + (Tok.far Tok.digit (b.data.toList.drop (p + 1)) + 1) = b.size
  · have hz' : decide (((p + (Tok.far Tok.digit (b.data.toList.drop (p + 1)) + 1) : Nat) : Int) < (b.size : Int)) = false := by rw [decide_eq_false_iff_not]; omega
    rw [decide_eq_false (hbeh hz), Bool.or_false] at hcb
    simp only [lexE, nilS, refE, I, a_gnomonref03_Lex,s_gnomonref03_Lex_l0_b,s_gnomonref03_Lex_l1_b,s_gnomonref03_Lex_l2_b,s_gnomonref03_Lex_l3_b, am0,am1,am2,am3,am4,am5,am6,am7,bl,i64,reduceIte,reduceCtorEq,Nat.reduceEqDiff,Nat.reduceLT,Nat.reduceLeDiff,Nat.reduceBEq,Nat.reduceAdd,fillA,splice,Nat.reduceMul,al0,al1,al2,al3,al4,al5,al6,al7,al8,al9,al10,al11,al12,al13,al14,al15,al16,al17,al18,al19,al20,al21,al22,al23,al24,al25,al26,al27,al28,al29,al30,al31,al32,al33,al34,amY,op_eqP, hlt', hx, w, b32, n32, b9, n9, b13, n13, b10, n10, h59', hL, hlt1, hD, hdg, hl, wf, h48, q1, q2, hspot H hbH, hz', hcb, hdH, hbd]
  · have hz' : (((p + (Tok.far Tok.digit (b.data.toList.drop (p + 1)) + 1) : Nat) : Int) < (b.size : Int)) := by omega
    obtain ⟨x2, hx2⟩ : ∃ x, b.data.toList[p + (Tok.far Tok.digit (b.data.toList.drop (p + 1)) + 1)]? = some x := ⟨_, List.getElem?_eq_getElem (show p + (Tok.far Tok.digit (b.data.toList.drop (p + 1)) + 1) < b.size by omega)⟩
    have hb2 := hbe2 x2 hx2
    have dm := dot_m x2
    cases hl2 : Tok.letter x2 with
    | true =>
      simp only [lexE, nilS, refE, I, a_gnomonref03_Lex,s_gnomonref03_Lex_l0_b,s_gnomonref03_Lex_l1_b,s_gnomonref03_Lex_l2_b,s_gnomonref03_Lex_l3_b, am0,am1,am2,am3,am4,am5,am6,am7,bl,i64,reduceIte,reduceCtorEq,Nat.reduceEqDiff,Nat.reduceLT,Nat.reduceLeDiff,Nat.reduceBEq,Nat.reduceAdd,fillA,splice,Nat.reduceMul,al0,al1,al2,al3,al4,al5,al6,al7,al8,al9,al10,al11,al12,al13,al14,al15,al16,al17,al18,al19,al20,al21,al22,al23,al24,al25,al26,al27,al28,al29,al30,al31,al32,al33,al34,amY,op_eqP, hlt', hx, w, b32, n32, b9, n9, b13, n13, b10, n10, h59', hL, hlt1, hD, hdg, hl, wf, h48, q1, q2, hspot H hbH, hz', hx2, hl2, hdH, hbd]
    | false =>
      rw [hl2, Bool.false_or] at hb2
      simp only [lexE, nilS, refE, I, a_gnomonref03_Lex,s_gnomonref03_Lex_l0_b,s_gnomonref03_Lex_l1_b,s_gnomonref03_Lex_l2_b,s_gnomonref03_Lex_l3_b, am0,am1,am2,am3,am4,am5,am6,am7,bl,i64,reduceIte,reduceCtorEq,Nat.reduceEqDiff,Nat.reduceLT,Nat.reduceLeDiff,Nat.reduceBEq,Nat.reduceAdd,fillA,splice,Nat.reduceMul,al0,al1,al2,al3,al4,al5,al6,al7,al8,al9,al10,al11,al12,al13,al14,al15,al16,al17,al18,al19,al20,al21,al22,al23,al24,al25,al26,al27,al28,al29,al30,al31,al32,al33,al34,amY,op_eqP, hlt', hx, w, b32, n32, b9, n9, b13, n13, b10, n10, h59', hL, hlt1, hD, hdg, hl, wf, h48, q1, q2, hspot H hbH, hz', hx2, hl2, dm, hb2, hcb, hdH, hbd]
theorem ref_num (T : TR CT) {base m : Nat} {b : ByteArray} (hb : b.size ≤ 2 ^ 40) {d : Nat} (hbd : base ≤ d) (hbm : base ≤ m) {H : Heap} {v : V} {ln cl p : Nat} {R : List (List V)} (st : RefSt m H d v R) (hR : R.length ≤ p) {c : UInt8} (hx : b.data.toList[p]? = some c) (hsp : Tok.spotL (b.data.toList.take p) (1, 1) = (ln, cl)) (hbl : Tok.blank c = false) (h59 : c ≠ 59) (hlt1 : Tok.letter c = false) (hdg : Tok.digit c = true) (hco : ¬ (9 < Tok.far Tok.digit (b.data.toList.drop (p + 1)) + 1 ∨ (1 < Tok.far Tok.digit (b.data.toList.drop (p + 1)) + 1 ∧ c = 48) ∨ Tok.far Tok.digit (b.data.toList.drop (p + 1)) < Tok.far Tok.within (b.data.toList.drop (p + 1)))) :
    ∃ v' H', itW (evC (callW CT) itW base s_gnomonref03_Lex_l3) [55] m (frOf 197 (refE b d v p)) H = itW (evC (callW CT) itW base s_gnomonref03_Lex_l3) [55] m (frOf 197 (refE b d v' (p + (Tok.far Tok.digit (b.data.toList.drop (p + 1)) + 1)))) H' ∧ RefSt m H' d v' (R ++ [tV ⟨2, c :: (b.data.toList.drop (p + 1)).take (Tok.far Tok.digit (b.data.toList.drop (p + 1))), Tok.val (c :: (b.data.toList.drop (p + 1)).take (Tok.far Tok.digit (b.data.toList.drop (p + 1)))), ln, cl⟩]) ∧ KeepD m [] H H' := by
  have hlt : p < b.size := (List.getElem?_eq_some_iff.1 hx).1
  have hlt' : ((p : Int) < (b.size : Int)) := by omega
  have hdr : b.data.toList.drop p = c :: b.data.toList.drop (p + 1) := by
    rw [List.drop_eq_getElem_cons hlt, (List.getElem?_eq_some_iff.1 hx).2]
  have hL := rletter_fun T.letter
  have hD := rdigit_fun T.digit
  have hS := rsign_fun T.sign c
  have hmL := st.len
  have hspot := fun (H : Heap) (hH : base ≤ H.length) => spot_fun T.spot base H hH hb (q := p) (by omega)
  simp only [hsp] at hspot
  have w := w64_nat (n := p) (by omega)
  have ten := ten_m c
  have b32 : ((c.toNat : Int) == 32) = (c == 32) := by rw [Bool.eq_iff_iff, beq_iff_eq, beq_iff_eq, byte_ne]; rfl
  have b9 : ((c.toNat : Int) == 9) = (c == 9) := by rw [Bool.eq_iff_iff, beq_iff_eq, beq_iff_eq, byte_ne]; rfl
  have b13 : ((c.toNat : Int) == 13) = (c == 13) := by rw [Bool.eq_iff_iff, beq_iff_eq, beq_iff_eq, byte_ne]; rfl
  have b10 : ((c.toNat : Int) == 10) = (c == 10) := by rw [Bool.eq_iff_iff, beq_iff_eq, beq_iff_eq, byte_ne]; rfl
  have h59' : ((c.toNat : Int) == 59) = false := by rw [beq_eq_false_iff_ne]; intro e; exact h59 ((byte_ne c 59).2 e)
  have nb := hbl
  unfold Tok.blank at nb
  simp only [Bool.or_eq_false_iff] at nb
  obtain ⟨⟨⟨n32, n9⟩, n13⟩, n10⟩ := nb
  have hfl := Tok.far_le Tok.digit (b.data.toList.drop (p + 1))
  rw [List.length_drop, show b.data.toList.length = b.size from rfl] at hfl
  have hl := fun w7 => rdigit_loop hD base hb (d := d) (v := v) (w7 := w7) (from' := p) (H := H) (b.data.toList.drop p) 0 0 rfl (by omega) (by decide)
  simp only [hdr, Tok.far, if_pos hdg, I, Nat.zero_add, Nat.add_zero, show ((0 : Nat) : Int) = 0 from rfl] at hl
  have wf : IntKind.i64.wrap (((p + (Tok.far Tok.digit (b.data.toList.drop (p + 1)) + 1) : Nat) : Int) - (p : Int)) = ((Tok.far Tok.digit (b.data.toList.drop (p + 1)) + 1 : Nat) : Int) := by rw [IntKind.wrap_i64]; omega
  have h48 : ((c.toNat : Int) == 48) = decide (c = 48) := by rw [Bool.eq_iff_iff, beq_iff_eq, decide_eq_true_iff, byte_ne]; rfl
  have q1 : decide ((((Tok.far Tok.digit (b.data.toList.drop (p + 1)) + 1 : Nat) : Int)) > 9) = decide (9 < Tok.far Tok.digit (b.data.toList.drop (p + 1)) + 1) := by rw [Bool.eq_iff_iff, decide_eq_true_iff, decide_eq_true_iff]; omega
  have q2 : decide ((((Tok.far Tok.digit (b.data.toList.drop (p + 1)) + 1 : Nat) : Int)) > 1) = decide (1 < Tok.far Tok.digit (b.data.toList.drop (p + 1)) + 1) := by rw [Bool.eq_iff_iff, decide_eq_true_iff, decide_eq_true_iff]; omega
  have hbH : base ≤ H.length := by omega
  obtain ⟨nv, hnv⟩ : ∃ nv, nval 0 0 (c :: b.data.toList.drop (p + 1)) = nv := ⟨_, rfl⟩
  simp only [hnv] at hl
  have hbeh : ∀ (hz : p + (Tok.far Tok.digit (b.data.toList.drop (p + 1)) + 1) = b.size) , ¬ (Tok.far Tok.digit (b.data.toList.drop (p + 1)) < Tok.far Tok.within (b.data.toList.drop (p + 1))) := by
    intro hz h
    have := Tok.far_le Tok.within (b.data.toList.drop (p + 1))
    rw [List.length_drop, show b.data.toList.length = b.size from rfl] at this
    omega
  have hbe2 : ∀ x, b.data.toList[p + (Tok.far Tok.digit (b.data.toList.drop (p + 1)) + 1)]? = some x → (Tok.letter x || x == 46) = decide (Tok.far Tok.digit (b.data.toList.drop (p + 1)) < Tok.far Tok.within (b.data.toList.drop (p + 1))) := fun x hx => far_behind hdr hx
  have hval : nv = Tok.val (c :: (b.data.toList.drop (p + 1)).take (Tok.far Tok.digit (b.data.toList.drop (p + 1)))) := by
    have h9 : 0 + Tok.far Tok.digit (c :: b.data.toList.drop (p + 1)) ≤ 9 := by
      simp only [Tok.far, if_pos hdg]
      have := fun h => hco (.inl h)
      omega
    rw [← hnv, nval_val _ 0 0 h9]
    simp only [Tok.far, if_pos hdg, List.take_succ_cons]
    rfl
  have hle : (0 ≤ (p : Int) ∧ (p : Int) ≤ ((p + (Tok.far Tok.digit (b.data.toList.drop (p + 1)) + 1) : Nat) : Int) ∧ ((p + (Tok.far Tok.digit (b.data.toList.drop (p + 1)) + 1) : Nat) : Int) ≤ (b.size : Int)) := by omega
  have hex := extract_eq b p (Tok.far Tok.digit (b.data.toList.drop (p + 1)) + 1)
  rw [hdr, List.take_succ_cons] at hex
  obtain ⟨v', C, eC, sC, kC⟩ := st.app hbm (Ob.cells 0 [V.s (.int .i64 ln), V.s (.int .i64 cl)]) (row := tV ⟨2, c :: (b.data.toList.drop (p + 1)).take (Tok.far Tok.digit (b.data.toList.drop (p + 1))), nv, ln, cl⟩) rfl rfl (by omega)
  have eC' : appendV (H ++ [Ob.cells 0 [V.s (.int .i64 ln), V.s (.int .i64 cl)]] ++ [Ob.cells 0 [V.s (.int .u8 2), V.s (.string ⟨(c :: (b.data.toList.drop (p + 1)).take (Tok.far Tok.digit (b.data.toList.drop (p + 1)))).toArray⟩), V.s (.int .i64 nv), V.s (.int .i64 ln), V.s (.int .i64 cl)]]) base 5 48 v (.sl (H.length + 1) 0 0 1 5) = some (v', C) := eC
  rw [← hval]
  refine ⟨v', _, ?_, sC.tr (fr := frOf 197 (refE b d v' (p + (Tok.far Tok.digit (b.data.toList.drop (p + 1)) + 1)))) (frOf_mem (s := 5) (by decide) rfl), KeepD.tr kC _⟩
  rw [itW_step]
  have hcb : (decide (9 < Tok.far Tok.digit (b.data.toList.drop (p + 1)) + 1) || decide (1 < Tok.far Tok.digit (b.data.toList.drop (p + 1)) + 1) && decide (c = 48) || decide (Tok.far Tok.digit (b.data.toList.drop (p + 1)) < Tok.far Tok.within (b.data.toList.drop (p + 1)))) = false := by
    rw [← Bool.not_eq_true]
    simp only [Bool.or_eq_true, Bool.and_eq_true, decide_eq_true_eq, or_assoc]; exact hco
  by_cases hz : p + (Tok.far Tok.digit (b.data.toList.drop (p + 1)) + 1) = b.size
  · have hz' : decide (((p + (Tok.far Tok.digit (b.data.toList.drop (p + 1)) + 1) : Nat) : Int) < (b.size : Int)) = false := by rw [decide_eq_false_iff_not]; omega
    rw [decide_eq_false (hbeh hz), Bool.or_false] at hcb
    simp only [lexE, nilS, refE, I, a_gnomonref03_Lex,s_gnomonref03_Lex_l0_b,s_gnomonref03_Lex_l1_b,s_gnomonref03_Lex_l2_b,s_gnomonref03_Lex_l3_b, am0,am1,am2,am3,am4,am5,am6,am7,bl,i64,reduceIte,reduceCtorEq,Nat.reduceEqDiff,Nat.reduceLT,Nat.reduceLeDiff,Nat.reduceBEq,Nat.reduceAdd,fillA,splice,Nat.reduceMul,al0,al1,al2,al3,al4,al5,al6,al7,al8,al9,al10,al11,al12,al13,al14,al15,al16,al17,al18,al19,al20,al21,al22,al23,al24,al25,al26,al27,al28,al29,al30,al31,al32,al33,al34,amY,op_eqP, hlt', hx, w, b32, n32, b9, n9, b13, n13, b10, n10, h59', hL, hlt1, hD, hdg, hl, wf, h48, q1, q2, hspot H hbH, hz', hcb, xsub_str, xsub_build, hle, hex, eC']
  · have hz' : (((p + (Tok.far Tok.digit (b.data.toList.drop (p + 1)) + 1) : Nat) : Int) < (b.size : Int)) := by omega
    obtain ⟨x2, hx2⟩ : ∃ x, b.data.toList[p + (Tok.far Tok.digit (b.data.toList.drop (p + 1)) + 1)]? = some x := ⟨_, List.getElem?_eq_getElem (show p + (Tok.far Tok.digit (b.data.toList.drop (p + 1)) + 1) < b.size by omega)⟩
    have hb2 := hbe2 x2 hx2
    have dm := dot_m x2
    cases hl2 : Tok.letter x2 with
    | true =>
      rw [hl2, Bool.true_or] at hb2
      rw [← hb2, Bool.or_true] at hcb
      cases hcb
    | false =>
      rw [hl2, Bool.false_or] at hb2
      simp only [lexE, nilS, refE, I, a_gnomonref03_Lex,s_gnomonref03_Lex_l0_b,s_gnomonref03_Lex_l1_b,s_gnomonref03_Lex_l2_b,s_gnomonref03_Lex_l3_b, am0,am1,am2,am3,am4,am5,am6,am7,bl,i64,reduceIte,reduceCtorEq,Nat.reduceEqDiff,Nat.reduceLT,Nat.reduceLeDiff,Nat.reduceBEq,Nat.reduceAdd,fillA,splice,Nat.reduceMul,al0,al1,al2,al3,al4,al5,al6,al7,al8,al9,al10,al11,al12,al13,al14,al15,al16,al17,al18,al19,al20,al21,al22,al23,al24,al25,al26,al27,al28,al29,al30,al31,al32,al33,al34,amY,op_eqP, hlt', hx, w, b32, n32, b9, n9, b13, n13, b10, n10, h59', hL, hlt1, hD, hdg, hl, wf, h48, q1, q2, hspot H hbH, hz', hx2, hl2, dm, hb2, hcb, xsub_str, xsub_build, hle, hex, eC']
end
end Go.Proofs.YtfnkpedipicjnaaDoor
set_option maxRecDepth 100000
namespace Go.Proofs.YtfnkpedipicjnaaDoor
open Go.AM
def RefRes (m d : Nat) (b : ByteArray) (R : List (List V)) (H : Heap) (out : Tok.Out) (X : Option St) : Prop :=
  (∃ ts ln cl v H', out = .done (ts ++ [⟨4, [], 0, ln, cl⟩]) ∧ X = some (.ext 0, frOf 197 (refE b d v b.size ++ [(18, bl false)]), H') ∧ RefSt m H' d v (R ++ ts.map tV) ∧ KeepD m [] H H' ∧ Tok.spotL (b.data.toList.take b.size) (1, 1) = (ln, cl) ∧ R.length + ts.length ≤ b.size) ∨
  (∃ e a q H', out = .bad e a q ∧ X = some (.ret, frOf 197 [(2, nilS), (3, .ref d 0 0), (4, .s (.int .i64 e))], H') ∧ getC H' d 0 = some [I a, I q] ∧ KeepD m [d] H H')
theorem RefRes.keep {m d : Nat} {b : ByteArray} {R : List (List V)} {H H2 : Heap} {out : Tok.Out} {X : Option St} (r : RefRes m d b R H2 out X) (k : KeepD m [] H H2) : RefRes m d b R H out X := by
  rcases r with ⟨ts, ln, cl, v, H', h1, h2, h3, h4, h5⟩ | ⟨e, a, q, H', h1, h2, h3, h4⟩
  · exact .inl ⟨ts, ln, cl, v, H', h1, h2, h3, k.trans h4 (Nat.le_refl _), h5⟩
  · exact .inr ⟨e, a, q, H', h1, h2, h3, (KeepD.mono k (Nat.le_refl _) (fun id _ hx => by simp at hx)).trans h4 (Nat.le_refl _)⟩
theorem RefRes.cons {m d : Nat} {b : ByteArray} {R : List (List V)} {H H2 : Heap} {out : Tok.Out} {X : Option St} {t : Tok.T} (r : RefRes m d b (R ++ [tV t]) H2 out X) (k : KeepD m [] H H2) : RefRes m d b R H (.cons t out) X := by
  rcases r.keep k with ⟨ts, ln, cl, v, H', rfl, h2, h3, h4, h5, h7⟩ | ⟨e, a, q, H', rfl, h2, h3, h4⟩
  · refine .inl ⟨t :: ts, ln, cl, v, H', rfl, h2, ?_, h4, h5, ?_⟩
    · rw [List.map_cons, ← List.singleton_append, ← List.append_assoc]; exact h3
    · rw [List.length_append, List.length_singleton] at h7
      rw [List.length_cons]; omega
  · exact .inr ⟨e, a, q, H', rfl, h2, h3, h4⟩
section
variable {CT : Nat → Option CFun}
theorem ref_loop (T : TR CT) {base m : Nat} {b : ByteArray} (hb : b.size ≤ 2 ^ 40) {d : Nat} (hbm : base ≤ m) (hbd : base ≤ d) : ∀ (N : Nat) (p ln cl : Nat) (v : V) (R : List (List V)) (H : Heap), b.size - p ≤ N → p ≤ b.size → RefSt m H d v R → R.length ≤ p → Tok.spotL (b.data.toList.take p) (1, 1) = (ln, cl) →
    RefRes m d b R H (Tok.lex (b.data.toList.drop p) ln cl) (itW (evC (callW CT) itW base s_gnomonref03_Lex_l3) [55] m (frOf 197 (refE b d v p)) H) := by
  have hend : ∀ (p ln cl : Nat) (v : V) (R : List (List V)) (H : Heap), b.size - p = 0 → p ≤ b.size → RefSt m H d v R → R.length ≤ p → Tok.spotL (b.data.toList.take p) (1, 1) = (ln, cl) →
      RefRes m d b R H (Tok.lex (b.data.toList.drop p) ln cl) (itW (evC (callW CT) itW base s_gnomonref03_Lex_l3) [55] m (frOf 197 (refE b d v p)) H) := by
    intro p ln cl v R H h0 h1 st hR hsp
    obtain rfl : p = b.size := by omega
    rw [List.drop_eq_nil_of_le (show b.data.toList.length ≤ b.size from Nat.le_refl _), Tok.lex_nil]
    refine .inl ⟨[], ln, cl, v, _, rfl, ?_, by simpa using st.tr (fr := frOf 197 (refE b d v b.size ++ [(18, bl false)])) (frOf_mem (s := 5) (by decide) rfl), KeepD.tr (A := H) ⟨st.len, fun _ _ _ => rfl⟩ (frOf 197 (refE b d v b.size ++ [(18, bl false)])), hsp, by simpa using hR⟩
    rw [itW_step]
    simp only [refE, I, a_gnomonref03_Lex,s_gnomonref03_Lex_l0_b,s_gnomonref03_Lex_l1_b,s_gnomonref03_Lex_l2_b,s_gnomonref03_Lex_l3_b, am0,am1,am2,am3,am4,am5,am6,am7,bl,i64,reduceIte,reduceCtorEq,Nat.reduceEqDiff,Nat.reduceLT,Nat.reduceLeDiff,Nat.reduceBEq,Nat.reduceAdd,fillA,splice,Nat.reduceMul,al0,al1,al2,al3,al4,al5,al6,al7,al8,al9,al10,al11,al12,al13,al14,al15,al16,al17,al18,al19,al20,al21,al22,al23,al24,al25,al26,al27,al28,al29,al30,al31,al32,al33,al34,amY,op_eqP, Int.lt_irrefl]
  intro N
  induction N with
  | zero => exact fun p ln cl v R H h0 h1 st hR hsp => hend p ln cl v R H (by omega) h1 st hR hsp
  | succ N ih =>
    intro p ln cl v R H h0 h1 st hR hsp
    by_cases hz : p = b.size
    · exact hend p ln cl v R H (by omega) h1 st hR hsp
    have hlt : p < b.data.toList.length := by show p < b.size; omega
    obtain ⟨c, hx⟩ : ∃ c, b.data.toList[p]? = some c := ⟨_, List.getElem?_eq_getElem hlt⟩
    have hdr : b.data.toList.drop p = c :: b.data.toList.drop (p + 1) := by
      rw [List.drop_eq_getElem_cons hlt, (List.getElem?_eq_some_iff.1 hx).2]
    have hdd : ∀ k, (b.data.toList.drop (p + 1)).drop k = b.data.toList.drop (p + (k + 1)) := fun k => by rw [List.drop_drop]; congr 1; omega
    have hfl : ∀ q, p + (Tok.far q (b.data.toList.drop (p + 1)) + 1) ≤ b.size := fun q => by
      have := Tok.far_le q (b.data.toList.drop (p + 1))
      rw [List.length_drop, show b.data.toList.length = b.size from rfl] at this
      have : p < b.size := hlt
      omega
    have hsz : p < b.size := hlt
    have sp1 : Tok.spotL (b.data.toList.take (p + 1)) (1, 1) = (if c = 10 then (ln + 1, 1) else (ln, cl + 1)) := by
      rw [List.take_add_one, hx, Tok.spotL_app, hsp]
      simp only [Option.toList, Tok.spotL]
    have spf : ∀ q, q 10 = false → c ≠ 10 → Tok.spotL (b.data.toList.take (p + (Tok.far q (b.data.toList.drop (p + 1)) + 1))) (1, 1) = (ln, cl + (Tok.far q (b.data.toList.drop (p + 1)) + 1)) := by
      intro q hq hc
      rw [List.take_add, Tok.spotL_app, hsp, hdr, List.take_succ_cons, Tok.spotL_flat _ _ (Tok.len_ne q hq _ hc), List.length_cons, Tok.far_len]
    rw [hdr, Tok.lex_cons]
    cases hbl : Tok.blank c with
    | true =>
      obtain ⟨H2, e, s, k⟩ := ref_blank T hb hbd hbm st hR hx hsp hbl
      rw [if_pos rfl, e]
      refine RefRes.keep ?_ k
      split
      · rename_i h10
        exact ih _ _ _ v R H2 (by omega) (by omega) s (by omega) (by rw [sp1, if_pos h10])
      · rename_i h10
        exact ih _ _ _ v R H2 (by omega) (by omega) s (by omega) (by rw [sp1, if_neg h10])
    | false =>
      rw [if_neg (by simp)]
      by_cases h59 : c = 59
      · obtain ⟨H2, e, s, k⟩ := ref_comment T hb hbd hbm st hR hx hsp hbl h59
        rw [if_pos h59, e, hdd]
        exact RefRes.keep (ih _ _ _ v R H2 (by omega) (hfl _) s (by omega) (spf _ (by decide) (by rw [h59]; decide))) k
      · rw [if_neg h59]
        cases hlt1 : Tok.letter c with
        | true =>
          obtain ⟨v', H2, e, s, k⟩ := ref_name T hb hbd hbm st hR hx hsp hbl h59 hlt1
          rw [if_pos rfl, e, hdd]
          exact RefRes.cons (ih _ _ _ v' _ H2 (by omega) (hfl _) s (by simp; omega) (spf _ (by decide) (Tok.not_ten (.inl hlt1)))) k
        | false =>
          rw [if_neg (by simp)]
          cases hdg : Tok.digit c with
          | true =>
            rw [if_pos rfl]
            split
            · rename_i hco
              obtain ⟨H2, e, s, k⟩ := ref_num_bad T hb hbd hbm st hR hx hsp hbl h59 hlt1 hdg hco
              rw [e]
              exact .inr ⟨31, ln, cl, H2, rfl, rfl, s, k⟩
            · rename_i hco
              obtain ⟨v', H2, e, s, k⟩ := ref_num T hb hbd hbm st hR hx hsp hbl h59 hlt1 hdg hco
              rw [e, hdd]
              exact RefRes.cons (ih _ _ _ v' _ H2 (by omega) (hfl _) s (by simp; omega) (spf _ (by decide) (Tok.not_ten (.inr (.inl hdg))))) k
          | false =>
            rw [if_neg (by simp)]
            cases hsg : Tok.sign c with
            | true =>
              obtain ⟨v', H2, e, s, k⟩ := ref_sign T hb hbd hbm st hR hx hsp hbl h59 hlt1 hdg hsg
              rw [if_pos rfl, e]
              exact RefRes.cons (ih _ _ _ v' _ H2 (by omega) (by omega) s (by simp; omega) (by rw [sp1, if_neg (Tok.not_ten (.inr (.inr hsg)))])) k
            | false =>
              obtain ⟨H2, e, s, k⟩ := ref_byte T hb hbd hbm st hR hx hsp hbl h59 hlt1 hdg hsg
              rw [if_neg (by simp), e]
              exact .inr ⟨30, ln, cl, H2, rfl, rfl, s, k⟩
theorem ref_fun (hT : CT k_gnomonref03_Lex = some (.code s_gnomonref03_Lex)) (T : TR CT) (base : Nat) (H : Heap) (hbase : base ≤ H.length) (b : ByteArray) (r : List Tok.T × (Nat × Nat) × Nat) (hr : lexR b.data.toList = r) :
    ∃ v H', callW CT (.fn k_gnomonref03_Lex [] []) [.s (.string b)] base H = some (.tup [v, .agg [I r.2.1.1, I r.2.1.2], .s (.int .i64 r.2.2)], H') ∧ AccW H.length 5 H' v (r.1.map tV) ∧ KeepD H.length [] H H' := by
  by_cases hsz : 1048576 < b.size
  · have hr2 : r = ([], (0, 0), 2) := by rw [← hr]; exact if_pos hsz
    have hg : decide ((b.size : Int) > 1048576) = true := by rw [decide_eq_true_iff]; omega
    have e : callW CT (.fn k_gnomonref03_Lex [] []) [.s (.string b)] base H = some (.tup [nilS, .agg [.s (.int .i64 0), .s (.int .i64 0)], .s (.int .i64 2)], H ++ [.cells 0 [.s (.int .i64 0), .s (.int .i64 0)]]) := by
      refine callW_fnA (c := s_gnomonref03_Lex) (k := 1) hT rfl (by decide) s_gnomonref03_Lex_first ?_
      simp only [s_gnomonref03_Lex, nilS, a_gnomonref03_Lex,s_gnomonref03_Lex_l0_b,s_gnomonref03_Lex_l1_b,s_gnomonref03_Lex_l2_b,s_gnomonref03_Lex_l3_b, am0,am1,am2,am3,am4,am5,am6,am7,bl,i64,reduceIte,reduceCtorEq,Nat.reduceEqDiff,Nat.reduceLT,Nat.reduceLeDiff,Nat.reduceBEq,Nat.reduceAdd,fillA,splice,Nat.reduceMul,al0,al1,al2,al3,al4,al5,al6,al7,al8,al9,al10,al11,al12,al13,al14,al15,al16,al17,al18,al19,al20,al21,al22,al23,al24,al25,al26,al27,al28,al29,al30,al31,al32,al33,al34,amY,op_eqP, hg, hbase, resultV3, loadV_x]
    subst hr2
    exact ⟨_, _, e, AccW.start _ _ _, by simp, fun id h _ => by rw [List.getElem?_append_left h]⟩
  · have hg : decide ((b.size : Int) > 1048576) = false := by rw [decide_eq_false_iff_not]; omega
    obtain ⟨L, hL⟩ : ∃ L, H.length = L := ⟨_, rfl⟩
    obtain ⟨H4, hH4⟩ : ∃ H4, H ++ [Ob.cells 0 [V.s (Value.int IntKind.i64 0), V.s (Value.int IntKind.i64 0)]] = H4 := ⟨_, rfl⟩
    have k4 : ∀ x, x < L → H4[x]? = H[x]? := fun x hx => by rw [← hH4]; rw [List.getElem?_append_left (by omega)]
    have l4 : H4.length = L + 1 := by rw [← hH4]; simp [hL]
    have g0 : getC H4 L 0 = some [I 0, I 0] := by rw [← hH4]; simp [getC, hL, I]
    have st : RefSt (L + 1) H4 L nilS [] := ⟨⟨_, _, g0⟩, AccW.start _ _ _, by omega, by omega⟩
    have hlp := ref_loop T (base := base) (m := L + 1) (b := b) (by omega) (d := L) (by omega) (by omega) b.size 0 1 1 nilS [] H4 (by omega) (by omega) st (by simp) rfl
    have hr3 : r = match Tok.lex b.data.toList 1 1 with
        | .done ts => (ts, (0, 0), 0)
        | .bad e a q => ([], (a, q), e) := by rw [← hr]; exact if_neg hsz
    rw [List.drop_zero] at hlp
    have hbL : base ≤ L := by omega
    rcases hlp with ⟨ts, ln, cl, v, H', h1, h2, h3, h4, h5, h7⟩ | ⟨e, a, q, H', h1, h2, h3, h4⟩
    · rw [h1] at hr3
      simp only at hr3
      subst hr3
      have hbH : base ≤ H'.length := by have := h4.1; omega
      have hspot := spot_fun T.spot base H' hbH (b := b) (by omega) (q := b.size) (Nat.le_refl _)
      simp only [h5] at hspot
      obtain ⟨v', C, eC, sC, kC⟩ := h3.app (base := base) (by omega) (Ob.cells 0 [V.s (.int .i64 ln), V.s (.int .i64 cl)]) (row := tV ⟨4, [], 0, ln, cl⟩) rfl rfl (by simp at h7 ⊢; omega)
      have eC' : appendV (H' ++ [Ob.cells 0 [V.s (.int .i64 ln), V.s (.int .i64 cl)]] ++ [Ob.cells 0 [V.s (.int .u8 4), V.s (.string ⟨#[]⟩), V.s (.int .i64 0), V.s (.int .i64 ln), V.s (.int .i64 cl)]]) base 5 48 v (.sl (H'.length + 1) 0 0 1 5) = some (v', C) := eC
      obtain ⟨x, y, d2⟩ := sC.res
      have d3 : ∀ c, getC (C.set L (.cells 0 c)) L 0 = some c := fun c => getC_put d2 c
      have e : callW CT (.fn k_gnomonref03_Lex [] []) [.s (.string b)] base H = some (.tup [v', .agg [.s (.int .i64 0), .s (.int .i64 0)], .s (.int .i64 0)], C.set L (.cells 0 [.s (.int .i64 0), .s (.int .i64 0)])) := by
        refine callW_fnA (c := s_gnomonref03_Lex) (k := 1) hT rfl (by decide) s_gnomonref03_Lex_first ?_
        simp only [refE, nilS] at h2
        rw [I, show ((0 : Nat) : Int) = 0 from rfl] at h2
        simp only [s_gnomonref03_Lex, nilS, a_gnomonref03_Lex,s_gnomonref03_Lex_l0_b,s_gnomonref03_Lex_l1_b,s_gnomonref03_Lex_l2_b,s_gnomonref03_Lex_l3_b, am0,am1,am2,am3,am4,am5,am6,am7,bl,i64,reduceIte,reduceCtorEq,Nat.reduceEqDiff,Nat.reduceLT,Nat.reduceLeDiff,Nat.reduceBEq,Nat.reduceAdd,fillA,splice,Nat.reduceMul,al0,al1,al2,al3,al4,al5,al6,al7,al8,al9,al10,al11,al12,al13,al14,al15,al16,al17,al18,al19,al20,al21,al22,al23,al24,al25,al26,al27,al28,al29,al30,al31,al32,al33,al34,amY,op_eqP, hL, hg, hbL, resultV3, loadV_x, hH4, l4, h2, hspot, xsub_build, eC', d2, d3]
      refine ⟨_, _, e, ?_, ?_⟩
      · rw [List.map_append, List.map_cons, List.map_nil]
        obtain ⟨hw, ⟨e0, _⟩ | ⟨id, g, rfl, hcc, hid⟩⟩ := sC.out
        · simp at e0
        · rw [List.nil_append] at hw hcc ⊢
          refine ⟨hw, .inr ⟨id, g, by simp, ?_, by omega⟩⟩
          unfold getC at hcc ⊢
          rw [List.getElem?_set_ne (by omega)]
          exact hcc
      · refine ⟨by rw [List.length_set]; have := kC.1; omega, fun x hx _ => ?_⟩
        rw [List.getElem?_set_ne (by omega), kC.2 x (by omega) (by simp), h4.2 x (by omega) (by simp), k4 x (by omega)]
    · rw [h1] at hr3
      simp only at hr3
      subst hr3
      have e : callW CT (.fn k_gnomonref03_Lex [] []) [.s (.string b)] base H = some (.tup [nilS, .agg [.s (.int .i64 a), .s (.int .i64 q)], .s (.int .i64 e)], H') := by
        refine callW_fnA (c := s_gnomonref03_Lex) (k := 1) hT rfl (by decide) s_gnomonref03_Lex_first ?_
        simp only [refE, nilS] at h2
        rw [I, show ((0 : Nat) : Int) = 0 from rfl] at h2
        simp only [s_gnomonref03_Lex, nilS, a_gnomonref03_Lex,s_gnomonref03_Lex_l0_b,s_gnomonref03_Lex_l1_b,s_gnomonref03_Lex_l2_b,s_gnomonref03_Lex_l3_b, am0,am1,am2,am3,am4,am5,am6,am7,bl,i64,reduceIte,reduceCtorEq,Nat.reduceEqDiff,Nat.reduceLT,Nat.reduceLeDiff,Nat.reduceBEq,Nat.reduceAdd,fillA,splice,Nat.reduceMul,al0,al1,al2,al3,al4,al5,al6,al7,al8,al9,al10,al11,al12,al13,al14,al15,al16,al17,al18,al19,al20,al21,al22,al23,al24,al25,al26,al27,al28,al29,al30,al31,al32,al33,al34,amY,op_eqP, hL, hg, hbL, resultV3, loadV_x, hH4, l4, h2, h3]
      exact ⟨_, _, e, AccW.start _ _ _, by have := h4.1; omega, fun id hid _ => by rw [h4.2 id (by omega) (by simp; omega), k4 id (by omega)]⟩
end
end Go.Proofs.YtfnkpedipicjnaaDoor
set_option maxRecDepth 100000
namespace Go.Proofs.YtfnkpedipicjnaaDoor
open Go.AM
theorem tok_eq (t u : Tok.T) : eqLeaves [Leaf.int IntKind.u8, Leaf.str, Leaf.int IntKind.i64, Leaf.int IntKind.i64, Leaf.int IntKind.i64] (tV t) (tV u) = some (decide (t = u)) := by
  unfold tV I
  simp only [eqLeaves, eqLeaf, and_self, if_true, Bool.and_true]
  congr 1
  rw [Bool.eq_iff_iff, decide_eq_true_iff]
  cases t
  cases u
  simp only [Bool.and_eq_true, beq_iff_eq, Int.natCast_inj, Tok.T.mk.injEq]
theorem spot_eq (a b c d : Int) : eqLeaves [Leaf.int IntKind.i64, Leaf.int IntKind.i64] [.s (.int .i64 a), .s (.int .i64 b)] [.s (.int .i64 c), .s (.int .i64 d)] = some (a == c && b == d) := by
  simp only [eqLeaves, eqLeaf, and_self, if_true, Bool.and_true]
section
variable {CT : Nat → Option CFun}
theorem same_loop (base : Nat) {v1 v2 : V} {H : Heap} {ts : List Tok.T} (h1 : RdW 5 H v1 (ts.map tV)) (h2 : RdW 5 H v2 (ts.map tV)) (hn : ts.length < 2 ^ 60) : ∀ (n j : Nat), j + n = ts.length →
    itW (evC (callW CT) itW base s_gnomonref03_Same_l0) [] H.length (frOf 26 [(0, v1), (1, v2), (5, I j)]) H = some (.ext 0, frOf 26 [(0, v1), (1, v2), (5, I ts.length), (14, bl false)], H) := by
  have e1 := h1.len
  have e2 := h2.len
  rw [List.length_map] at e1 e2
  intro n
  induction n with
  | zero =>
    intro j hj
    obtain rfl : j = ts.length := by omega
    rw [itW_step]
    simp only [a_gnomonref03_Same,s_gnomonref03_Same_l0_b, am0,am1,am2,am3,am4,am5,am6,am7,bl,i64,reduceIte,reduceCtorEq,Nat.reduceEqDiff,Nat.reduceLT,Nat.reduceLeDiff,Nat.reduceBEq,Nat.reduceAdd,fillA,splice,Nat.reduceMul,al0,al1,al2,al3,al4,al5,al6,al7,al8,al9,al10,al11,al12,al13,al14,al15,al16,al17,al18,al19,al20,al21,al22,al23,al24,al25,al26,al27,al28,al29,al30,al31,al32,al33,al34,amY,op_eqP, I, e1, e2, Int.lt_irrefl]
  | succ n ih =>
    intro j hj
    have hlt : j < ts.length := by omega
    have hlt' : ((j : Int) < (ts.length : Int)) := by omega
    have w := w64_nat (n := j) (by omega)
    have hrow : (ts.map tV)[j]? = some (tV ts[j]) := by simp [hlt]
    obtain ⟨a, a1, a2, _⟩ := h1.at' j _ hrow
    obtain ⟨c, c1, c2, _⟩ := h2.at' j _ hrow
    have hen := ih (j + 1) (by omega)
    rw [itW_step]
    simp only [a_gnomonref03_Same,s_gnomonref03_Same_l0_b, am0,am1,am2,am3,am4,am5,am6,am7,bl,i64,reduceIte,reduceCtorEq,Nat.reduceEqDiff,Nat.reduceLT,Nat.reduceLeDiff,Nat.reduceBEq,Nat.reduceAdd,fillA,splice,Nat.reduceMul,al0,al1,al2,al3,al4,al5,al6,al7,al8,al9,al10,al11,al12,al13,al14,al15,al16,al17,al18,al19,al20,al21,al22,al23,al24,al25,al26,al27,al28,al29,al30,al31,al32,al33,al34,amY,op_eqP, I, e1, e2, hlt', w, a1, a2, c1, c2, tok_eq, decide_true]
    simp only [I] at hen
    exact hen
theorem same_fun (hT : CT k_gnomonref03_Same = some (.code s_gnomonref03_Same)) (base : Nat) {v1 v2 : V} {H : Heap} {ts : List Tok.T} (h1 : RdW 5 H v1 (ts.map tV)) (h2 : RdW 5 H v2 (ts.map tV)) (hn : ts.length < 2 ^ 60) :
    callW CT (.fn k_gnomonref03_Same [] []) [v1, v2] base H = some (bl true, H) := by
  refine callW_fn (c := s_gnomonref03_Same) hT (by simp [s_gnomonref03_Same]) ?_
  have e1 := h1.len
  have e2 := h2.len
  rw [List.length_map] at e1 e2
  have hl := same_loop (CT := CT) base h1 h2 hn ts.length 0 (by omega)
  rw [I, I, show ((0 : Nat) : Int) = 0 from rfl] at hl
  simp only [s_gnomonref03_Same, a_gnomonref03_Same,s_gnomonref03_Same_l0_b, am0,am1,am2,am3,am4,am5,am6,am7,bl,i64,reduceIte,reduceCtorEq,Nat.reduceEqDiff,Nat.reduceLT,Nat.reduceLeDiff,Nat.reduceBEq,Nat.reduceAdd,fillA,splice,Nat.reduceMul,al0,al1,al2,al3,al4,al5,al6,al7,al8,al9,al10,al11,al12,al13,al14,al15,al16,al17,al18,al19,al20,al21,al22,al23,al24,al25,al26,al27,al28,al29,al30,al31,al32,al33,al34,amY,op_eqP, I, e1, e2, hl, bne_self_eq_false]
theorem lex_len : ∀ (n : Nat) (l : List UInt8) (ln cl : Nat) (ts : List Tok.T), l.length ≤ n → Tok.lex l ln cl = .done ts → ts.length ≤ l.length + 1 := by
  intro n
  induction n with
  | zero =>
    intro l ln cl ts h e
    obtain rfl : l = [] := List.eq_nil_of_length_eq_zero (by omega)
    rw [Tok.lex_nil] at e
    cases e; simp
  | succ n ih =>
    intro l ln cl ts h e
    cases l with
    | nil => rw [Tok.lex_nil] at e; cases e; simp
    | cons c l =>
      have hl : l.length ≤ n := by simpa using h
      have hd : ∀ m, (l.drop m).length ≤ n := fun m => by rw [List.length_drop]; omega
      rw [List.length_cons]
      rw [Tok.lex_cons] at e
      split at e
      · split at e
        · have := ih _ _ _ _ hl e; omega
        · have := ih _ _ _ _ hl e; omega
      · split at e
        · have := ih _ _ _ _ (hd _) e; rw [List.length_drop] at this; omega
        · split at e
          · obtain ⟨us, e1, rfl⟩ := Tok.cons_done e
            have := ih _ _ _ _ (hd _) e1; rw [List.length_drop] at this; rw [List.length_cons]; omega
          · split at e
            · split at e
              · cases e
              · obtain ⟨us, e1, rfl⟩ := Tok.cons_done e
                have := ih _ _ _ _ (hd _) e1; rw [List.length_drop] at this; rw [List.length_cons]; omega
            · split at e
              · obtain ⟨us, e1, rfl⟩ := Tok.cons_done e
                have := ih _ _ _ _ hl e1; rw [List.length_cons]; omega
              · cases e
theorem lexR_len {l : List UInt8} {r : List Tok.T × (Nat × Nat) × Nat} (h : lexR l = r) : r.1.length ≤ 1048577 := by
  unfold lexR at h
  split at h
  · subst h; simp
  · rename_i hs
    split at h
    · rename_i ts hts
      subst h
      have := lex_len _ l 1 1 ts (Nat.le_refl _) hts
      simp only
      omega
    · subst h; simp
theorem lexes_law (hT : CT k_gnomonlaw03_TokenLexes = some (.code s_gnomonlaw03_TokenLexes)) (hL : CT k_token_Lex = some (.code s_token_Lex)) (T : TL CT) (hR : CT k_gnomonref03_Lex = some (.code s_gnomonref03_Lex)) (TR : TR CT) (hS : CT k_gnomonref03_Same = some (.code s_gnomonref03_Same)) (hx : ∀ base H, callW CT (.fn k_gnomonlaw03_lexes [] []) [] base H = some (bl true, H)) (b : ByteArray) :
    ∃ H', callW CT (.fn k_gnomonlaw03_TokenLexes [] []) [.s (.string b)] 0 [] = some (bl true, H') := by
  obtain ⟨r, hr⟩ : ∃ r, lexR b.data.toList = r := ⟨_, rfl⟩
  have hrl := lexR_len hr
  obtain ⟨v1, A, eA, aA, kA⟩ := lex_fun hL T 0 [] (Nat.zero_le _) b r hr
  obtain ⟨B, hB⟩ : ∃ B, A ++ [Ob.cells 0 [I r.2.1.1, I r.2.1.2]] = B := ⟨_, rfl⟩
  obtain ⟨v2, C, eC, aC, kC⟩ := ref_fun hR TR 0 B (Nat.zero_le _) b r hr
  obtain ⟨D, hD⟩ : ∃ D, C ++ [Ob.cells 0 [I r.2.1.1, I r.2.1.2]] = D := ⟨_, rfl⟩
  cases h1 : (decide ((b.size : Int) > 1500) && decide ((b.size : Int) ≤ 1048576)) with
  | true =>
    refine ⟨[], ?_⟩
    refine callW_fn (c := s_gnomonlaw03_TokenLexes) hT (by simp [s_gnomonlaw03_TokenLexes]) ?_
    simp only [s_gnomonlaw03_TokenLexes, a_gnomonlaw03_TokenLexes, am0,am1,am2,am3,am4,am5,am6,am7,bl,i64,reduceIte,reduceCtorEq,Nat.reduceEqDiff,Nat.reduceLT,Nat.reduceLeDiff,Nat.reduceBEq,Nat.reduceAdd,fillA,splice,Nat.reduceMul,al0,al1,al2,al3,al4,al5,al6,al7,al8,al9,al10,al11,al12,al13,al14,al15,al16,al17,al18,al19,al20,al21,al22,al23,al24,al25,al26,al27,al28,al29,al30,al31,al32,al33,al34,amY,op_eqP, h1]
  | false =>
    have gB : getC B A.length 0 = some [I r.2.1.1, I r.2.1.2] := by rw [← hB]; exact getC_new A 0 _
    have lB : B.length = A.length + 1 := by rw [← hB]; simp
    have gC : getC C A.length 0 = some [I r.2.1.1, I r.2.1.2] := kC.getC gB (by omega) (by simp)
    have gD : getC D A.length 0 = some [I r.2.1.1, I r.2.1.2] := by rw [← hD]; exact getC_app gC
    have gD2 : getC D C.length 0 = some [I r.2.1.1, I r.2.1.2] := by rw [← hD]; exact getC_new C 0 _
    have kAB : KeepD A.length [] A B := ⟨by omega, fun id h1 _ => by rw [← hB, List.getElem?_append_left h1]⟩
    have kCD : KeepD C.length [] C D := ⟨by rw [← hD]; simp, fun id h1 _ => by rw [← hD, List.getElem?_append_left h1]⟩
    have r1 := (((aA.d kAB).d kC).d kCD).rd
    have r2 := (aC.d kCD).rd
    have hsame := same_fun hS 0 r1 r2 (by omega)
    refine ⟨_, callW_fn (c := s_gnomonlaw03_TokenLexes) hT (r := (bl true, D)) (by simp [s_gnomonlaw03_TokenLexes]) ?_⟩
    simp only [I] at eA eC hB hD gD gD2
    simp only [s_gnomonlaw03_TokenLexes, a_gnomonlaw03_TokenLexes, am0,am1,am2,am3,am4,am5,am6,am7,bl,i64,reduceIte,reduceCtorEq,Nat.reduceEqDiff,Nat.reduceLT,Nat.reduceLeDiff,Nat.reduceBEq,Nat.reduceAdd,fillA,splice,Nat.reduceMul,al0,al1,al2,al3,al4,al5,al6,al7,al8,al9,al10,al11,al12,al13,al14,al15,al16,al17,al18,al19,al20,al21,al22,al23,al24,al25,al26,al27,al28,al29,al30,al31,al32,al33,al34,amY,op_eqP, h1, eA, eC, hB, hD, Nat.zero_le, hsame, gD, gD2, spot_eq, hx, beq_self_eq_true, Bool.and_self]
end
end Go.Proofs.YtfnkpedipicjnaaDoor
set_option maxRecDepth 100000
namespace Go.Proofs.YtfnkpedipicjnaaDoor
open Go.AM
theorem AccW.look {m : Nat} {F : Heap} {v : V} {R : List (List V)} (h : AccW m 5 F v R) : ∃ id g, ∀ (i : Nat) (r : List V), R[i]? = some r → xIndexAddr 5 v (.s (.int .i64 i)) = some (.ref id g (i * 5)) ∧ ∀ H, KeepD F.length [] F H → xLoad H true 5 (.ref id g (i * 5)) = some (.agg r) ∧ ∀ (o : Nat) (x : V), r[o]? = some x → xLoad H false 1 (.ref id g (i * 5 + o)) = some x := by
  obtain ⟨hR, ⟨rfl, rfl⟩ | ⟨id, g, rfl, hc, hid⟩⟩ := h
  · exact ⟨0, 0, fun i r hr => by simp at hr⟩
  · refine ⟨id, g, fun i r hr => ?_⟩
    have key : ∀ H, KeepD F.length [] F H → ∃ a, xIndexAddr 5 (.sl id g 0 R.length 5) (.s (.int .i64 i)) = some a ∧ xLoad H true 5 a = some (.agg r) ∧ ∀ (o : Nat) (x : V), r[o]? = some x → ∃ b, xFieldAddr o a = some b ∧ xLoad H false 1 b = some x := fun H k => (RdW.sl (k.getC hc (getC_lt hc) (by simp)) hR).at' i r hr
    have hi := (List.getElem?_eq_some_iff.1 hr).1
    have ea : xIndexAddr 5 (.sl id g 0 R.length 5) (.s (.int .i64 i)) = some (.ref id g (i * 5)) := by
      rw [xi_sl, if_pos ⟨by omega, by omega, rfl⟩, Int.toNat_natCast, Nat.zero_add]
    refine ⟨ea, fun H k => ?_⟩
    obtain ⟨a, a1, a2, a3⟩ := key H k
    rw [ea] at a1
    cases a1
    refine ⟨a2, fun o x hx => ?_⟩
    obtain ⟨b, b1, b2⟩ := a3 o x hx
    cases b1
    exact b2
theorem eq5 (a n l c a' n' l' c' : Int) (x x' : ByteArray) : eqLeaves [Leaf.int IntKind.u8, Leaf.str, Leaf.int IntKind.i64, Leaf.int IntKind.i64, Leaf.int IntKind.i64] [.s (.int .u8 a), .s (.string x), .s (.int .i64 n), .s (.int .i64 l), .s (.int .i64 c)] [.s (.int .u8 a'), .s (.string x'), .s (.int .i64 n'), .s (.int .i64 l'), .s (.int .i64 c')] = some (a == a' && (x.data.toList == x'.data.toList && (n == n' && (l == l' && c == c')))) := by
  simp only [eqLeaves, eqLeaf, and_self, if_true, Bool.and_true]
theorem lexR_small {l : List UInt8} (h : l.length ≤ 1048576) : lexR l = match Tok.lex l 1 1 with
    | .done ts => (ts, (0, 0), 0)
    | .bad e a q => ([], (a, q), e) := if_neg (by omega)
section
variable {CT : Nat → Option CFun}
theorem joins_loop {base : Nat} {F : Heap} {v1 v2 v3 : V} {t1 t2 : List Tok.T} {more : Nat} (a1 : AccW 0 5 F v1 (t1.map tV)) (a2 : AccW 0 5 F v2 (t2.map tV)) (a3 : AccW 0 5 F v3 ((t1.dropLast ++ t2.map (Tok.T.down more)).map tV)) (hbase : base ≤ F.length) (h1 : t1 ≠ []) (n1 : t1.length < 2 ^ 50) (n2 : t2.length < 2 ^ 50) (hml : ∀ t ∈ t2, t.line + more < 2 ^ 62) : ∀ (n i : Nat) (H : Heap), i + n = (t1.dropLast ++ t2.map (Tok.T.down more)).length → KeepD F.length [] F H →
    ∃ H', itW (evC (callW CT) itW base s_gnomonlaw03_TokenJoins_l0) [] F.length (frOf 138 [(5, v1), (8, v2), (11, v3), (14, I more), (15, I i)]) H = some (.ext 0, frOf 138 [(5, v1), (8, v2), (11, v3), (14, I more), (15, I (t1.dropLast ++ t2.map (Tok.T.down more)).length), (100, bl false)], H') ∧ KeepD F.length [] F H' := by
  obtain ⟨t3, ht3⟩ : ∃ t3, t1.dropLast ++ t2.map (Tok.T.down more) = t3 := ⟨_, rfl⟩
  have l3 : t3.length = (t1.length - 1) + t2.length := by rw [← ht3]; simp
  rw [ht3] at a3 ⊢
  have e1 := fun {H : Heap} (k : KeepD F.length [] F H) => (a1.d k).rd.len
  have e2 := fun {H : Heap} (k : KeepD F.length [] F H) => (a2.d k).rd.len
  have e3 := fun {H : Heap} (k : KeepD F.length [] F H) => (a3.d k).rd.len
  simp only [List.length_map] at e1 e2 e3
  have hp1 : 0 < t1.length := List.length_pos_iff.2 h1
  obtain ⟨id1, g1, look1⟩ := AccW.look a1
  obtain ⟨id2, g2, look2⟩ := AccW.look a2
  obtain ⟨id3, g3, look3⟩ := AccW.look a3
  intro n
  induction n with
  | zero =>
    intro i H hi hk
    obtain rfl : i = t3.length := by omega
    refine ⟨_, ?_, KeepD.tr hk (frOf 138 [(5, v1), (8, v2), (11, v3), (14, I more), (15, I t3.length), (100, bl false)])⟩
    rw [itW_step]
    simp only [a_gnomonlaw03_TokenJoins,s_gnomonlaw03_TokenJoins_l0_b, am0,am1,am2,am3,am4,am5,am6,am7,bl,i64,reduceIte,reduceCtorEq,Nat.reduceEqDiff,Nat.reduceLT,Nat.reduceLeDiff,Nat.reduceBEq,Nat.reduceAdd,fillA,splice,Nat.reduceMul,al0,al1,al2,al3,al4,al5,al6,al7,al8,al9,al10,al11,al12,al13,al14,al15,al16,al17,al18,al19,al20,al21,al22,al23,al24,al25,al26,al27,al28,al29,al30,al31,al32,al33,al34,amY,op_eqP, I, e3 hk, Int.lt_irrefl]
  | succ n ih =>
    intro i H hi hk
    have hlt : i < t3.length := by omega
    have hlt' : ((i : Int) < (t3.length : Int)) := by omega
    have w := w64_nat (n := i) (by omega)
    have hHl := hk.1
    have hr3 : (t3.map tV)[i]? = some (tV t3[i]) := by simp [hlt]
    obtain ⟨G, hG⟩ : ∃ G, H ++ [Ob.cells 0 (tV t3[i])] = G := ⟨_, rfl⟩
    have lG : G.length = H.length + 1 := by rw [← hG]; simp
    have kG : KeepD F.length [] F G := ⟨by omega, fun x hx _ => by rw [← hG, List.getElem?_append_left (by omega)]; exact hk.2 x hx (by simp)⟩
    have kS : ∀ c, KeepD F.length [] F (G.set H.length (.cells 0 c)) := fun c => ⟨by rw [List.length_set]; exact kG.1, fun x hx _ => by rw [List.getElem?_set_ne (by omega)]; exact kG.2 x hx (by simp)⟩
    have gG : getC G H.length 0 = some (tV t3[i]) := by rw [← hG]; exact getC_new H 0 _
    obtain ⟨x3, y3⟩ := look3 i _ hr3
    have hi1 : IntKind.i64.wrap ((t1.length : Int) - 1) = ((t1.length - 1 : Nat) : Int) := by rw [IntKind.wrap_i64]; omega
    have hGx : H ++ [Ob.cells 0 [.s (.int .u8 t3[i].kind), .s (.string ⟨t3[i].text.toArray⟩), .s (.int .i64 t3[i].n), .s (.int .i64 t3[i].line), .s (.int .i64 t3[i].col)]] = G := hG
    have hbH : base ≤ H.length := by omega
    simp only [tV, I] at gG
    have lS : ∀ c, (G.set H.length (.cells 0 c)).length = G.length := fun c => List.length_set
    have tS : ∀ fr c, trim G.length fr (G.set H.length (.cells 0 c)) = G.set H.length (.cells 0 c) := fun fr c => trim_same (lS c)
    have gS : ∀ c, getC (G.set H.length (.cells 0 c)) H.length 0 = some c := fun c => getC_put gG c
    have sS : ∀ c c', (G.set H.length (.cells 0 c)).set H.length (.cells 0 c') = G.set H.length (.cells 0 c') := fun c c' => List.set_set ..
    have y3' := (y3 H hk).1
    simp only [tV, I] at y3'
    have y3s := fun c => (y3 _ (kS c)).1
    simp only [tV, I] at y3s
    by_cases hc : i < t1.length - 1
    · have hd : decide ((i : Int) < ((t1.length - 1 : Nat) : Int)) = true := by rw [decide_eq_true_iff]; omega
      have hr1 : (t1.map tV)[i]? = some (tV t1[i]) := by simp [show i < t1.length by omega]
      obtain ⟨x1, y1⟩ := look1 i _ hr1
      have y1' := (y1 G kG).1
      simp only [tV, I] at y1'
      have e31 : t3[i] = t1[i] := by simp only [← ht3]; rw [List.getElem_append_left (by simp; omega), List.getElem_dropLast]
      obtain ⟨H', eH, kH⟩ := ih (i + 1) _ (by omega) (KeepD.tr (kS [.s (.int .u8 t1[i].kind), .s (.string ⟨t1[i].text.toArray⟩), .s (.int .i64 t1[i].n), .s (.int .i64 t1[i].line), .s (.int .i64 t1[i].col)]) (frOf 138 [(5, v1), (8, v2), (11, v3), (14, I more), (15, I (i + 1 : Nat))]))
      refine ⟨H', ?_, kH⟩
      simp only [I] at eH
      rw [e31] at y3' y3s hGx
      rw [itW_step]
      simp only [a_gnomonlaw03_TokenJoins,s_gnomonlaw03_TokenJoins_l0_b, am0,am1,am2,am3,am4,am5,am6,am7,bl,i64,reduceIte,reduceCtorEq,Nat.reduceEqDiff,Nat.reduceLT,Nat.reduceLeDiff,Nat.reduceBEq,Nat.reduceAdd,fillA,splice,Nat.reduceMul,al0,al1,al2,al3,al4,al5,al6,al7,al8,al9,al10,al11,al12,al13,al14,al15,al16,al17,al18,al19,al20,al21,al22,al23,al24,al25,al26,al27,al28,al29,al30,al31,al32,al33,al34,amY,op_eqP, I, e3 hk, hlt', x3, y3', hGx, e1 kG, hi1, hd, x1, y1', gG, w, hbH, tS, gS, y3s, eq5, beq_self_eq_true, Bool.and_self, eH]
    · have hd : decide ((i : Int) < ((t1.length - 1 : Nat) : Int)) = false := by rw [decide_eq_false_iff_not]; omega
      obtain ⟨j, hj⟩ : ∃ j, i = t1.length - 1 + j := ⟨i - (t1.length - 1), by omega⟩
      have hj2 : j < t2.length := by omega
      have hr2 : (t2.map tV)[j]? = some (tV t2[j]) := by simp [hj2]
      obtain ⟨x2, y2⟩ := look2 j _ hr2
      have y2' := (y2 G kG).1
      simp only [tV, I] at y2'
      have hi2 : IntKind.i64.wrap ((i : Int) - (t1.length : Int)) = (i : Int) - (t1.length : Int) := by rw [IntKind.wrap_i64]; omega
      have hi3 : IntKind.i64.wrap ((i : Int) - (t1.length : Int) + 1) = (j : Int) := by rw [IntKind.wrap_i64]; omega
      have hm := hml t2[j] (List.getElem_mem hj2)
      have wm : IntKind.i64.wrap (((t2[j].line : Nat) : Int) + (more : Int)) = ((t2[j].line + more : Nat) : Int) := by rw [IntKind.wrap_i64]; omega
      have e32 : t3[i] = (t2[j]).down more := by simp only [← ht3]; rw [List.getElem_append_right (by simp; omega)]; simp only [List.length_dropLast, List.getElem_map]; congr 2; omega
      obtain ⟨H', eH, kH⟩ := ih (i + 1) _ (by omega) (KeepD.tr (kS [.s (.int .u8 t2[j].kind), .s (.string ⟨t2[j].text.toArray⟩), .s (.int .i64 t2[j].n), .s (.int .i64 (t2[j].line + more : Nat)), .s (.int .i64 t2[j].col)]) (frOf 138 [(5, v1), (8, v2), (11, v3), (14, I more), (15, I (i + 1 : Nat))]))
      refine ⟨H', ?_, kH⟩
      simp only [I] at eH
      rw [e32] at y3' y3s hGx
      simp only [Tok.T.down] at y3' y3s hGx
      rw [itW_step]
      simp only [a_gnomonlaw03_TokenJoins,s_gnomonlaw03_TokenJoins_l0_b, am0,am1,am2,am3,am4,am5,am6,am7,bl,i64,reduceIte,reduceCtorEq,Nat.reduceEqDiff,Nat.reduceLT,Nat.reduceLeDiff,Nat.reduceBEq,Nat.reduceAdd,fillA,splice,Nat.reduceMul,al0,al1,al2,al3,al4,al5,al6,al7,al8,al9,al10,al11,al12,al13,al14,al15,al16,al17,al18,al19,al20,al21,al22,al23,al24,al25,al26,al27,al28,al29,al30,al31,al32,al33,al34,amY,op_eqP, I, e3 hk, hlt', x3, y3', hGx, e1 kG, hi1, hi2, hi3, hd, x2, y2', gG, w, hbH, tS, gS, sS, wm, y3s, eq5, beq_self_eq_true, Bool.and_self, eH]
theorem lex_end : ∀ (n : Nat) (l : List UInt8) (ln cl : Nat) (ts : List Tok.T), l.length ≤ n → Tok.lex l ln cl = .done ts → ts ≠ [] := fun n l ln cl ts h e e0 => Tok.lex_done_ne n l ln cl h (by rw [e, e0])
theorem lex_line : ∀ (n : Nat) (l : List UInt8) (ln cl : Nat) (ts : List Tok.T), l.length ≤ n → Tok.lex l ln cl = .done ts → ∀ t ∈ ts, t.line ≤ ln + l.length := by
  intro n
  induction n with
  | zero =>
    intro l ln cl ts h e
    obtain rfl : l = [] := List.eq_nil_of_length_eq_zero (by omega)
    rw [Tok.lex_nil] at e
    cases e; simp
  | succ n ih =>
    intro l ln cl ts h e
    cases l with
    | nil => rw [Tok.lex_nil] at e; cases e; simp
    | cons c l =>
      have hl : l.length ≤ n := by simpa using h
      have hd : ∀ m, (l.drop m).length ≤ n := fun m => by rw [List.length_drop]; omega
      have hd2 : ∀ m, (l.drop m).length ≤ l.length := fun m => by rw [List.length_drop]; omega
      rw [List.length_cons]
      rw [Tok.lex_cons] at e
      split at e
      · split at e
        · exact fun t ht => by have := ih _ _ _ _ hl e t ht; omega
        · exact fun t ht => by have := ih _ _ _ _ hl e t ht; omega
      · split at e
        · exact fun t ht => by have := ih _ _ _ _ (hd _) e t ht; have := hd2 (Tok.far Tok.other l); omega
        · split at e
          · obtain ⟨us, e1, rfl⟩ := Tok.cons_done e
            intro t ht
            rcases List.mem_cons.1 ht with rfl | ht
            · simp only; omega
            · have := ih _ _ _ _ (hd _) e1 t ht; have := hd2 (Tok.far Tok.within l); omega
          · split at e
            · split at e
              · cases e
              · obtain ⟨us, e1, rfl⟩ := Tok.cons_done e
                intro t ht
                rcases List.mem_cons.1 ht with rfl | ht
                · simp only; omega
                · have := ih _ _ _ _ (hd _) e1 t ht; have := hd2 (Tok.far Tok.digit l); omega
            · split at e
              · obtain ⟨us, e1, rfl⟩ := Tok.cons_done e
                intro t ht
                rcases List.mem_cons.1 ht with rfl | ht
                · simp only; omega
                · have := ih _ _ _ _ hl e1 t ht; omega
              · cases e
theorem joins_law (hT : CT k_gnomonlaw03_TokenJoins = some (.code s_gnomonlaw03_TokenJoins)) (hL : CT k_token_Lex = some (.code s_token_Lex)) (T : TL CT) (hx : ∀ base H, callW CT (.fn k_gnomonlaw03_lexes [] []) [] base H = some (bl true, H)) (a b : ByteArray) :
    ∃ H', callW CT (.fn k_gnomonlaw03_TokenJoins [] []) [.s (.string a), .s (.string b)] 0 [] = some (bl true, H') := by
  cases hg : (decide ((a.size : Int) > 2000) || decide ((b.size : Int) > 2000)) with
  | true =>
    refine ⟨[], ?_⟩
    refine callW_fn (c := s_gnomonlaw03_TokenJoins) hT (by simp [s_gnomonlaw03_TokenJoins]) ?_
    simp only [s_gnomonlaw03_TokenJoins, a_gnomonlaw03_TokenJoins,s_gnomonlaw03_TokenJoins_l0_b, am0,am1,am2,am3,am4,am5,am6,am7,bl,i64,reduceIte,reduceCtorEq,Nat.reduceEqDiff,Nat.reduceLT,Nat.reduceLeDiff,Nat.reduceBEq,Nat.reduceAdd,fillA,splice,Nat.reduceMul,al0,al1,al2,al3,al4,al5,al6,al7,al8,al9,al10,al11,al12,al13,al14,al15,al16,al17,al18,al19,al20,al21,al22,al23,al24,al25,al26,al27,al28,al29,al30,al31,al32,al33,al34,amY,op_eqP, hg]
  | false =>
    have ha : a.data.toList.length ≤ 2000 := by
      simp only [Bool.or_eq_false_iff, decide_eq_false_iff_not] at hg
      have h1 := hg.1
      show a.size ≤ 2000
      omega
    have hb : b.data.toList.length ≤ 2000 := by
      simp only [Bool.or_eq_false_iff, decide_eq_false_iff_not] at hg
      have h1 := hg.2
      show b.size ≤ 2000
      omega
    obtain ⟨ab, hab⟩ : ∃ ab, a ++ ⟨#[10]⟩ ++ b = ab := ⟨_, rfl⟩
    have habl : ab.data.toList = a.data.toList ++ 10 :: b.data.toList := by rw [← hab]; simp [ByteArray.data_append]
    have hs1 : (((a.size + (ByteArray.mk #[10]).size : Nat) : Int) > IntKind.i64.max) = False := by
      rw [eq_iff_iff, iff_false, show (ByteArray.mk #[10]).size = 1 from rfl, show IntKind.i64.max = 9223372036854775807 from rfl]
      have : a.size ≤ 2000 := ha
      omega
    have hs2 : ((((a ++ ⟨#[10]⟩ : ByteArray).size + b.size : Nat) : Int) > IntKind.i64.max) = False := by
      rw [eq_iff_iff, iff_false, ByteArray.size_append, show (ByteArray.mk #[10]).size = 1 from rfl, show IntKind.i64.max = 9223372036854775807 from rfl]
      have : a.size ≤ 2000 := ha
      have : b.size ≤ 2000 := hb
      omega
    have r1 := lexR_small (l := a.data.toList) (by omega)
    have r2 := lexR_small (l := b.data.toList) (by omega)
    have r3 := lexR_small (l := ab.data.toList) (by rw [habl, List.length_append, List.length_cons]; omega)
    rw [habl, Tok.lex_join b.data.toList _ _ _ _ (Nat.le_refl _), ← habl] at r3
    obtain ⟨q1, hq1⟩ : ∃ q, lexR a.data.toList = q := ⟨_, rfl⟩
    obtain ⟨q2, hq2⟩ : ∃ q, lexR b.data.toList = q := ⟨_, rfl⟩
    obtain ⟨q3, hq3⟩ : ∃ q, lexR ab.data.toList = q := ⟨_, rfl⟩
    obtain ⟨v1, A, eA, aA, kA⟩ := lex_fun hL T 0 [] (Nat.zero_le _) a q1 hq1
    obtain ⟨B, hB⟩ : ∃ B, A ++ [Ob.cells 0 [I q1.2.1.1, I q1.2.1.2]] = B := ⟨_, rfl⟩
    obtain ⟨v2, C, eC, aC, kC⟩ := lex_fun hL T 0 B (Nat.zero_le _) b q2 hq2
    obtain ⟨D, hD⟩ : ∃ D, C ++ [Ob.cells 0 [I q2.2.1.1, I q2.2.1.2]] = D := ⟨_, rfl⟩
    obtain ⟨v3, E, eE, aE, kE⟩ := lex_fun hL T 0 D (Nat.zero_le _) ab q3 hq3
    obtain ⟨F, hF⟩ : ∃ F, E ++ [Ob.cells 0 [I q3.2.1.1, I q3.2.1.2]] = F := ⟨_, rfl⟩
    have lB : B.length = A.length + 1 := by rw [← hB]; simp
    have lD : D.length = C.length + 1 := by rw [← hD]; simp
    have lF : F.length = E.length + 1 := by rw [← hF]; simp
    have kAB : KeepD A.length [] A B := ⟨by omega, fun id h1 _ => by rw [← hB, List.getElem?_append_left h1]⟩
    have kCD : KeepD C.length [] C D := ⟨by omega, fun id h1 _ => by rw [← hD, List.getElem?_append_left h1]⟩
    have kEF : KeepD E.length [] E F := ⟨by omega, fun id h1 _ => by rw [← hF, List.getElem?_append_left h1]⟩
    have hCl := kC.1
    have hEl := kE.1
    have gB : getC B A.length 0 = some [I q1.2.1.1, I q1.2.1.2] := by rw [← hB]; exact getC_new A 0 _
    have gD : getC D C.length 0 = some [I q2.2.1.1, I q2.2.1.2] := by rw [← hD]; exact getC_new C 0 _
    have gF3 : getC F E.length 0 = some [I q3.2.1.1, I q3.2.1.2] := by rw [← hF]; exact getC_new E 0 _
    have gF2 : getC F C.length 0 = some [I q2.2.1.1, I q2.2.1.2] := kEF.getC (kE.getC gD (by omega) (by simp)) (by omega) (by simp)
    have aF1 : AccW 0 5 F v1 (q1.1.map tV) := ((((aA.d kAB).d kC).d kCD).d kE).d kEF
    have wk : ∀ {m : Nat} {H : Heap} {v : V} {R : List (List V)}, AccW m 5 H v R → AccW 0 5 H v R := fun h => ⟨h.1, h.2.imp id fun ⟨id, g, h1, h2, h3⟩ => ⟨id, g, h1, h2, Nat.zero_le _⟩⟩
    have aF2 : AccW 0 5 F v2 (q2.1.map tV) := wk ((((aC).d kCD).d kE).d kEF)
    have aF3 : AccW 0 5 F v3 (q3.1.map tV) := wk (aE.d kEF)
    have n1 := aF1.rd.len
    have n2 := aF2.rd.len
    have n3 := aF3.rd.len
    rw [List.length_map] at n1 n2 n3
    simp only [I] at eA eC eE hB hD hF gF2 gF3
    cases h1 : Tok.lex a.data.toList 1 1 with
    | bad e p q =>
      have he : e = 30 ∨ e = 31 := (Tok.lex_ahead _ _ (1, 1) _ _ _ (Nat.le_refl _) h1).1
      rw [h1] at r1 r3
      simp only [Tok.Out.then'] at r3
      rw [hq1] at r1
      rw [hq3] at r3
      subst r1 r3
      have ne : ((e : Int) != 0) = true := by rcases he with rfl | rfl <;> rfl
      refine ⟨_, callW_fn (c := s_gnomonlaw03_TokenJoins) hT (r := (bl true, F)) (by simp [s_gnomonlaw03_TokenJoins]) ?_⟩
      simp only [s_gnomonlaw03_TokenJoins, a_gnomonlaw03_TokenJoins,s_gnomonlaw03_TokenJoins_l0_b, am0,am1,am2,am3,am4,am5,am6,am7,bl,i64,reduceIte,reduceCtorEq,Nat.reduceEqDiff,Nat.reduceLT,Nat.reduceLeDiff,Nat.reduceBEq,Nat.reduceAdd,fillA,splice,Nat.reduceMul,al0,al1,al2,al3,al4,al5,al6,al7,al8,al9,al10,al11,al12,al13,al14,al15,al16,al17,al18,al19,al20,al21,al22,al23,al24,al25,al26,al27,al28,al29,al30,al31,al32,al33,al34,amY,op_eqP, hg, eA, hB, Nat.zero_le, eC, hD, hs1, hs2, hab, eE, hF, ne, beq_self_eq_true, hx]
    | done t1 =>
      have h0 := lex_end _ _ _ _ _ (Nat.le_refl _) h1
      have hp1 : 0 < t1.length := List.length_pos_iff.2 h0
      have hl1 := lex_len _ _ _ _ _ (Nat.le_refl _) h1
      obtain ⟨more, hmore⟩ : ∃ more, (t1.getLast?.map Tok.T.line).getD 0 = more := ⟨_, rfl⟩
      have hlast : t1[t1.length - 1].line = more := by
        rw [← hmore, List.getLast?_eq_getElem?, List.getElem?_eq_getElem (by omega)]
        rfl
      have hml : more ≤ 2001 := by
        have := lex_line _ _ _ _ _ (Nat.le_refl _) h1 _ (List.getElem_mem (show t1.length - 1 < t1.length by omega))
        omega
      rw [h1] at r1 r3
      simp only [Tok.Out.then', hmore] at r3
      rw [Nat.add_comm more 1, Tok.lex_down more _ _ 1 1 (Nat.le_refl _)] at r3
      rw [hq1] at r1
      have t1e : q1.1 = t1 := by rw [r1]
      have z1e : (((q1.2.2 : Nat) : Int) != 0) = false := by rw [r1]; rfl
      rw [t1e] at n1 aF1
      obtain ⟨id1, g1, look1⟩ := AccW.look aF1
      have hr1 : (t1.map tV)[t1.length - 1]? = some (tV t1[t1.length - 1]) := by rw [List.getElem?_map, List.getElem?_eq_getElem (by omega)]; rfl
      obtain ⟨x1, y1⟩ := look1 _ _ hr1
      have kF : KeepD F.length [] F F := KeepD.refl [] F
      have y1' := (y1 F kF).2 3 (.s (.int .i64 more)) (by rw [← hlast]; rfl)
      have w1 : IntKind.i64.wrap ((t1.length : Int) - 1) = ((t1.length - 1 : Nat) : Int) := by rw [IntKind.wrap_i64]; omega
      have z1 : ((t1.length : Int) == 0) = false := by rw [beq_eq_false_iff_ne]; omega
      cases h2 : Tok.lex b.data.toList 1 1 with
      | bad e p q =>
        obtain ⟨he, u, _, hu, _, _, hsp⟩ := Tok.lex_ahead _ _ (1, 1) _ _ _ (Nat.le_refl _) h2
        have hpq := spotL_le u (1, 1)
        rw [← hsp] at hpq
        simp only at hpq
        have hul : u.length ≤ 2000 := by rw [hu] at hb; simp at hb; omega
        rw [h2] at r2 r3
        simp only [Tok.Out.down, Tok.Out.app] at r3
        rw [hq2] at r2
        rw [hq3] at r3
        subst r2 r3
        have ne : ((e : Int) != 0) = true := by rcases he with rfl | rfl <;> rfl
        have w2 : IntKind.i64.wrap ((p : Int) + (more : Int)) = ((p + more : Nat) : Int) := by rw [IntKind.wrap_i64]; omega
        refine ⟨_, callW_fn (c := s_gnomonlaw03_TokenJoins) hT (r := (bl true, F)) (by simp [s_gnomonlaw03_TokenJoins]) ?_⟩
        simp only [s_gnomonlaw03_TokenJoins, a_gnomonlaw03_TokenJoins,s_gnomonlaw03_TokenJoins_l0_b, am0,am1,am2,am3,am4,am5,am6,am7,bl,i64,reduceIte,reduceCtorEq,Nat.reduceEqDiff,Nat.reduceLT,Nat.reduceLeDiff,Nat.reduceBEq,Nat.reduceAdd,fillA,splice,Nat.reduceMul,al0,al1,al2,al3,al4,al5,al6,al7,al8,al9,al10,al11,al12,al13,al14,al15,al16,al17,al18,al19,al20,al21,al22,al23,al24,al25,al26,al27,al28,al29,al30,al31,al32,al33,al34,amY,op_eqP, hg, eA, hB, Nat.zero_le, eC, hD, hs1, hs2, hab, eE, hF, z1e, ne, n1, z1, w1, x1, y1', gF2, gF3, w2, xsub_build, spot_eq, beq_self_eq_true, Bool.and_self, hx]
      | done t2 =>
        have hl2 := lex_len _ _ _ _ _ (Nat.le_refl _) h2
        rw [h2] at r2 r3
        simp only [Tok.Out.down, Tok.Out.app] at r3
        rw [hq2] at r2
        rw [hq3] at r3
        have t2e : q2.1 = t2 := by rw [r2]
        have t3e : q3.1 = t1.dropLast ++ t2.map (Tok.T.down more) := by rw [r3]
        have z2e : (((q2.2.2 : Nat) : Int) != 0) = false := by rw [r2]; rfl
        have z3e : (((q3.2.2 : Nat) : Int) != 0) = false := by rw [r3]; rfl
        rw [t2e] at n2 aF2
        rw [t3e] at n3 aF3
        have hlp := joins_loop (CT := CT) (base := 0) aF1 aF2 aF3 (Nat.zero_le _) h0 (by omega) (by omega) (fun t ht => by have := lex_line _ _ _ _ _ (Nat.le_refl _) h2 t ht; omega) _ 0 F (by rw [Nat.zero_add]) kF
        obtain ⟨H', eH, kH⟩ := hlp
        rw [I, I, show ((0 : Nat) : Int) = 0 from rfl] at eH
        have l3 : (t1.dropLast ++ t2.map (Tok.T.down more)).length = t1.length - 1 + t2.length := by simp
        have w2 : IntKind.i64.wrap ((t1.length : Int) + (t2.length : Int)) = ((t1.length + t2.length : Nat) : Int) := by rw [IntKind.wrap_i64]; omega
        have w3 : IntKind.i64.wrap (((t1.length + t2.length : Nat) : Int) - 1) = ((t1.length - 1 + t2.length : Nat) : Int) := by rw [IntKind.wrap_i64]; omega
        rw [l3] at n3 eH
        refine ⟨_, callW_fn (c := s_gnomonlaw03_TokenJoins) hT (r := (bl true, H')) (by simp [s_gnomonlaw03_TokenJoins]) ?_⟩
        simp only [I] at eH
        simp only [s_gnomonlaw03_TokenJoins, a_gnomonlaw03_TokenJoins,s_gnomonlaw03_TokenJoins_l0_b, am0,am1,am2,am3,am4,am5,am6,am7,bl,i64,reduceIte,reduceCtorEq,Nat.reduceEqDiff,Nat.reduceLT,Nat.reduceLeDiff,Nat.reduceBEq,Nat.reduceAdd,fillA,splice,Nat.reduceMul,al0,al1,al2,al3,al4,al5,al6,al7,al8,al9,al10,al11,al12,al13,al14,al15,al16,al17,al18,al19,al20,al21,al22,al23,al24,al25,al26,al27,al28,al29,al30,al31,al32,al33,al34,amY,op_eqP, hg, eA, hB, Nat.zero_le, eC, hD, hs1, hs2, hab, eE, hF, z1e, z2e, z3e, n1, n2, n3, z1, w1, w2, w3, x1, y1', bne_self_eq_false, eH, hx]
end
end Go.Proofs.YtfnkpedipicjnaaDoor
