/- Texts of the proof: TokF4, AmV, AmR, TokX, TokF5, TokF6, TokF7. -/
import Derived.Test.YtfnkpedipicjnaaDoorP0
import Derived.Test.YtfnkpedipicjnaaDoorP1
import Derived.Test.YtfnkpedipicjnaaDoorP2
import Derived.Test.YtfnkpedipicjnaaDoorP3
import Derived.ProofKit
import Derived.OpenShut
import Derived.ChangeArms
import Derived.FnData
import Derived.DataReads
import Derived.ChangeOld
import Derived.LaidMore
import Derived.Stop.Joined
import Derived.SevenTiedAt
import Derived.Test.YtfnkpedipicjnaaDoorRows
import Derived.Test.YtfnkpedipicjnaaDoorCards
import Derived.Test.YtfnkpedipicjnaaDoorTie
set_option linter.all false
set_option maxRecDepth 100000
namespace Go.Proofs.YtfnkpedipicjnaaDoor
open Go.AM
structure TL (CT : Nat → Option CFun) : Prop where
  letter : CT k_token_letter = some (.code s_token_letter)
  digit : CT k_token_digit = some (.code s_token_digit)
  other : CT k_token_Lex_2 = some (.code s_token_Lex_2)
  within : CT k_token_within = some (.code s_token_within)
  step : CT k_token_reader_step = some (.code s_token_reader_step)
  far : CT k_token_reader_far = some (.code s_token_reader_far)
  put : CT k_token_Lex_1 = some (.code s_token_Lex_1)
  idx : CT k_strings_IndexByte = some (.prim idxG)
  atoi : CT k_strconv_Atoi = some (.prim atoiG)
theorem LexSt.trim {m : Nat} {H : Heap} {o h i : Nat} {b : ByteArray} {ln cl at' : Nat} {R : List (List V)} (st : LexSt m H o h i b ln cl at' R) (fr : List V) : LexSt m (Go.AM.trim m fr H) o h i b ln cl at' R := by
  obtain ⟨v, ho, hv⟩ := st.out
  exact ⟨trim_get st.hold st.lt.1, trim_get st.rd st.lt.2.1, ⟨v, trim_get ho st.lt.2.2, AccW.trim_cell hv ho st.lt.2.2 fr⟩, trim_le st.len, st.lt, st.ne⟩
def lexE (b : ByteArray) (d h o : Nat) : Env := [(0, .s (.string b)), (3, .ref d 0 0), (5, .ref h 0 0), (6, .ref o 0 0), (7, .fn 13 [] [.ref o 0 0, .ref h 0 0])]
theorem idx_mem (c : UInt8) : ∀ l : List UInt8, decide (Lib.indexByte l c ≥ 0) = l.contains c
  | [] => by simp [Lib.indexByte]
  | b :: l => by
    have ih := idx_mem c l
    have h1 := Lib.indexByte_ge l c
    rw [List.contains_cons, ← ih, Bool.eq_iff_iff, decide_eq_true_iff, Bool.or_eq_true, decide_eq_true_iff]
    simp only [Lib.indexByte]
    by_cases e : b = c
    · subst e
      simp
    · have e1 : (b == c) = false := by simpa using e
      have e2 : (c == b) = false := by simpa using fun h => e h.symm
      rw [e1, e2]
      by_cases e3 : Lib.indexByte l c = -1
      · simp [e3]
      · have e4 : (Lib.indexByte l c == -1) = false := by simpa using e3
        simp only [e4, if_false, Bool.false_eq_true, false_or]
        omega
theorem blank_m (c : UInt8) : decide (Lib.indexByte [32, 9, 13, 10] c ≥ 0) = Tok.blank c := by
  rw [idx_mem]
  unfold Tok.blank
  simp only [List.contains_cons, List.contains_nil, Bool.or_false, Bool.or_assoc]
theorem sign_m (c : UInt8) : decide (Lib.indexByte [61, 44, 58, 40, 41, 123, 125, 91, 93] c ≥ 0) = Tok.sign c := by
  rw [idx_mem]
  unfold Tok.sign
  simp only [List.contains_cons, List.contains_nil, Bool.or_false, Bool.or_assoc]
section
variable {CT : Nat → Option CFun}
theorem LexSt.put {m : Nat} {H : Heap} {o h i : Nat} {b : ByteArray} {ln cl at' : Nat} {R : List (List V)} (st : LexSt m H o h i b ln cl at' R) (fr : List V) (ln2 cl2 at2 : Nat) : LexSt m (Go.AM.trim m fr (H.set i (.cells 0 (rC ln2 cl2 b at2)))) o h i b ln2 cl2 at2 R ∧ KeepD m [o, i] H (Go.AM.trim m fr (H.set i (.cells 0 (rC ln2 cl2 b at2)))) := by
  obtain ⟨v, ho, hv⟩ := st.out
  obtain ⟨h1, h2, h3⟩ := st.lt
  obtain ⟨n1, n2, n3⟩ := st.ne
  have hlen : m ≤ (H.set i (.cells 0 (rC ln2 cl2 b at2))).length := by rw [List.length_set]; exact st.len
  refine ⟨LexSt.trim ⟨by rw [getC_set_ne _ n3]; exact st.hold, getC_put st.rd _, ⟨v, by rw [getC_set_ne _ n2]; exact ho, hv.keep fun id g n e => ?_⟩, hlen, st.lt, st.ne⟩ fr, ⟨trim_le hlen, fun x hx hxn => ?_⟩⟩
  · obtain ⟨_, ⟨_, rfl⟩ | ⟨id', g', rfl, _, hid⟩⟩ := hv
    · cases e
    · cases e
      exact List.getElem?_set_ne (by omega)
  · simp only [List.mem_cons, List.not_mem_nil, or_false, not_or] at hxn
    rw [trim_id _ _ _ hx, List.getElem?_set_ne (Ne.symm hxn.2)]
theorem lex_blank (T : TL CT) {base m : Nat} {b : ByteArray} (hb : b.size ≤ 2 ^ 40) {d o h i : Nat} (hbo : base ≤ o) (hbi : base ≤ i) (hbm : base ≤ m) {H : Heap} {ln cl at' : Nat} {R : List (List V)} (st : LexSt m H o h i b ln cl at' R) (hl : ln ≤ at' + 1) (hc : cl ≤ at' + 1) (hR : R.length ≤ at' + 1) {c : UInt8} (hx : b.data.toList[at']? = some c) (hbl : Tok.blank c = true) :
    ∃ H', itW (evC (callW CT) itW base s_token_Lex_l0) [] m (frOf 106 (lexE b d h o)) H = itW (evC (callW CT) itW base s_token_Lex_l0) [] m (frOf 106 (lexE b d h o)) H' ∧ LexSt m H' o h i b (if c = 10 then ln + 1 else ln) (if c = 10 then 1 else cl + 1) (at' + 1) R ∧ KeepD m [o, i] H H' := by
  have hrd := st.rd
  have hh := st.hold
  have hrc : getC H i 0 = some [I ln, I cl, .s (.string b), I at'] := hrd
  have hlt : at' < b.size := (List.getElem?_eq_some_iff.1 hx).1
  have hlt' : ((at' : Int) < (b.size : Int)) := by omega
  have hdr : b.data.toList.drop at' = c :: b.data.toList.drop (at' + 1) := by
    rw [List.drop_eq_getElem_cons hlt, (List.getElem?_eq_some_iff.1 hx).2]
  have hidx : ∀ (s : ByteArray) (base : Nat) (H : Heap), callW CT (.fn k_strings_IndexByte [] []) [.s (.string s), .s (.int .u8 c.toNat)] base H = some (.s (.int .i64 (Lib.indexByte s.data.toList c)), H) := fun s base H => by
    refine callW_eq ?_
    simp only [evCall, T.idx]
    show some (V.s (.int .i64 (Lib.indexByte s.data.toList (c.toNat : Int).toNat.toUInt8)), H) = _
    rw [Int.toNat_natCast, show c.toNat.toUInt8 = c by simp]
  have hlet := fun base H => letter_fun T.letter c base H
  have hdig := fun base H => digit_fun T.digit c base H
  have hstep := step_fun T.step base hb hbi hrd (n := 1) (by omega) hl hc
  rw [I, show ((1 : Nat) : Int) = 1 from rfl, hdr, List.take_succ_cons, List.take_zero] at hstep
  obtain ⟨s1, s2⟩ := st.put (frOf 106 (lexE b d h o)) (if c = 10 then ln + 1 else ln) (if c = 10 then 1 else cl + 1) (at' + 1)
  refine ⟨_, ?_, s1, s2⟩
  have e1 : (Tok.spotL [c] (ln, cl)) = ((if c = 10 then ln + 1 else ln), (if c = 10 then 1 else cl + 1)) := by
    simp only [Tok.spotL]
    split <;> rfl
  rw [e1] at hstep
  rw [itW_step]
  simp only [lexE, a_token_Lex,s_token_Lex_l0_b, am0,am1,am2,am3,am4,am5,am6,am7,bl,i64,reduceIte,reduceCtorEq,Nat.reduceEqDiff,Nat.reduceLT,Nat.reduceLeDiff,Nat.reduceBEq,Nat.reduceAdd,fillA,splice,Nat.reduceMul,al0,al1,al2,al3,al4,al5,al6,al7,al8,al9,al10,al11,al12,al13,al14,al15,al16,al17,al18,al19,al20,al21,al22,al23,al24,al25,al26,al27,al28,al29,al30,al31,al32,al33,al34,amY,op_eqP, hh, hrc, hlt', hx, hidx, blank_m, hbl, hstep]
theorem lex_comment (T : TL CT) {base m : Nat} {b : ByteArray} (hb : b.size ≤ 2 ^ 40) {d o h i : Nat} (hbo : base ≤ o) (hbi : base ≤ i) (hbm : base ≤ m) {H : Heap} {ln cl at' : Nat} {R : List (List V)} (st : LexSt m H o h i b ln cl at' R) (hl : ln ≤ at' + 1) (hc : cl ≤ at' + 1) (hR : R.length ≤ at' + 1) {c : UInt8} (hx : b.data.toList[at']? = some c) (hbl : Tok.blank c = false) (h59 : c = 59) :
    ∃ H', itW (evC (callW CT) itW base s_token_Lex_l0) [] m (frOf 106 (lexE b d h o)) H = itW (evC (callW CT) itW base s_token_Lex_l0) [] m (frOf 106 (lexE b d h o)) H' ∧ LexSt m H' o h i b ln (cl + (Tok.far Tok.other (b.data.toList.drop (at' + 1)) + 1)) (at' + (Tok.far Tok.other (b.data.toList.drop (at' + 1)) + 1)) R ∧ KeepD m [o, i] H H' := by
  have hrd := st.rd
  have hh := st.hold
  have hrc : getC H i 0 = some [I ln, I cl, .s (.string b), I at'] := hrd
  have hlt : at' < b.size := (List.getElem?_eq_some_iff.1 hx).1
  have hlt' : ((at' : Int) < (b.size : Int)) := by omega
  have hdr : b.data.toList.drop at' = c :: b.data.toList.drop (at' + 1) := by
    rw [List.drop_eq_getElem_cons hlt, (List.getElem?_eq_some_iff.1 hx).2]
  have hidx : ∀ (s : ByteArray) (base : Nat) (H : Heap), callW CT (.fn k_strings_IndexByte [] []) [.s (.string s), .s (.int .u8 c.toNat)] base H = some (.s (.int .i64 (Lib.indexByte s.data.toList c)), H) := fun s base H => by
    refine callW_eq ?_
    simp only [evCall, T.idx]
    show some (V.s (.int .i64 (Lib.indexByte s.data.toList (c.toNat : Int).toNat.toUInt8)), H) = _
    rw [Int.toNat_natCast, show c.toNat.toUInt8 = c by simp]
  have hlet := fun base H => letter_fun T.letter c base H
  have hdig := fun base H => digit_fun T.digit c base H
  have hfar := fun base => far_fun T.far base (fun c base H => other_fun T.other c base H) ⟨_, rfl⟩ hb hrd (by omega)
  have hfl := Tok.far_le Tok.other (b.data.toList.drop (at' + 1))
  rw [List.length_drop, show b.data.toList.length = b.size from rfl] at hfl
  simp only [hdr, Tok.far, if_pos (show Tok.other c = true by rw [h59]; decide)] at hfar
  have hstep := step_fun T.step base hb hbi hrd (n := Tok.far Tok.other (b.data.toList.drop (at' + 1)) + 1) (by omega) hl hc
  rw [hdr, List.take_succ_cons, Tok.spotL_flat _ _ (Tok.len_ne Tok.other (by decide) _ (by rw [h59]; decide)), List.length_cons, Tok.far_len] at hstep
  obtain ⟨s1, s2⟩ := st.put (frOf 106 (lexE b d h o)) ln (cl + (Tok.far Tok.other (b.data.toList.drop (at' + 1)) + 1)) (at' + (Tok.far Tok.other (b.data.toList.drop (at' + 1)) + 1))
  refine ⟨_, ?_, s1, s2⟩
  have h59' : ((c.toNat : Int) == 59) = true := by rw [h59]; rfl
  rw [itW_step]
  simp only [lexE, I, a_token_Lex,s_token_Lex_l0_b, am0,am1,am2,am3,am4,am5,am6,am7,bl,i64,reduceIte,reduceCtorEq,Nat.reduceEqDiff,Nat.reduceLT,Nat.reduceLeDiff,Nat.reduceBEq,Nat.reduceAdd,fillA,splice,Nat.reduceMul,al0,al1,al2,al3,al4,al5,al6,al7,al8,al9,al10,al11,al12,al13,al14,al15,al16,al17,al18,al19,al20,al21,al22,al23,al24,al25,al26,al27,al28,al29,al30,al31,al32,al33,al34,amY,op_eqP, hh, hrc, hlt', hx, hidx, blank_m, hbl, h59', hfar, hstep]
end
end Go.Proofs.YtfnkpedipicjnaaDoor
namespace Go.AM
open Go.RowKit
end Go.AM
namespace Go.AM
open Go.RowKit
inductive Ty where
  | int (k : IntKind) | bool | str
  | sl (e : Ty)
  | st (fs : List Ty)
  deriving Inhabited
mutual
def Ty.width : Ty → Nat
  | .int _ => 1
  | .bool => 1
  | .str => 1
  | .sl _ => 1
  | .st fs => widths fs
def widths : List Ty → Nat
  | [] => 0
  | f :: fs => f.width + widths fs
end
mutual
def tyOk (P : Program) : Nat → Ty → TypeId → Bool
  | 0, _, _ => false
  | n + 1, ty, t => match ty, P.underlying t with
    | .int k, some (.int k') => k == k'
    | .bool, some .bool => true
    | .str, some .string => true
    | .sl e, some (.slice e') => tyOk P n e e' && P.cellsOf e' == e.width && decide (0 < e.width)
    | .st fs, some (.struct gs) => P.cellsOf t == widths fs && tysOk P n 0 fs gs.toList
    | _, _ => false
def tysOk (P : Program) : Nat → Nat → List Ty → List Field → Bool
  | 0, _, _, _ => false
  | n + 1, off, fs, gs => match fs, gs with
    | [], [] => true
    | f :: fs, g :: gs => g.offset == off && P.cellsOf g.type == f.width && tyOk P n f g.type && tysOk P n (off + f.width) fs gs
    | _, _ => false
end
mutual
def IsV : Ty → List V → Prop
  | .int k, cs => ∃ n, cs = [.s (.int k n)] ∧ k.min ≤ n ∧ n ≤ k.max
  | .bool, cs => ∃ b, cs = [.s (.bool b)]
  | .str, cs => ∃ b, cs = [.s (.string b)] ∧ b.size ≤ maxLen
  | .sl e, cs => cs = [nilS] ∨ ∃ es : List (List V), cs = [.psl es e.width] ∧ es.length ≤ maxLen ∧ ∀ x ∈ es, IsV e x
  | .st fs, cs => IsVs fs cs
def IsVs : List Ty → List V → Prop
  | [], cs => cs = []
  | f :: fs, cs => ∃ a b, cs = a ++ b ∧ IsV f a ∧ IsVs fs b
end
mutual
theorem IsV.len : ∀ (t : Ty) {cs : List V}, IsV t cs → cs.length = t.width
  | .int _, cs, h => by obtain ⟨n, rfl, _⟩ := h; rfl
  | .bool, cs, h => by obtain ⟨n, rfl⟩ := h; rfl
  | .str, cs, h => by obtain ⟨n, rfl, _⟩ := h; rfl
  | .sl e, cs, h => by rcases h with rfl | ⟨es, rfl, _⟩ <;> rfl
  | .st fs, cs, h => IsVs.len fs h
theorem IsVs.len : ∀ (fs : List Ty) {cs : List V}, IsVs fs cs → cs.length = widths fs
  | [], cs, h => by cases h; rfl
  | f :: fs, cs, h => by
    obtain ⟨a, b, rfl, h1, h2⟩ := h
    rw [List.length_append, IsV.len f h1, IsVs.len fs h2]; rfl
end
abbrev PRs (w : World) (vs : List V) (cs : List Value) : Prop := vs.length = cs.length ∧ ∀ (i : Nat) (a : V) (b : Value), vs[i]? = some a → cs[i]? = some b → PR (fun _ => False) w a b
theorem PRs.app {w : World} {a b : List V} {c d : List Value} (h : PRs w a c) (k : PRs w b d) : PRs w (a ++ b) (c ++ d) := by
  refine ⟨by simp [h.1, k.1], fun i x y hx hy => ?_⟩
  by_cases hi : i < a.length
  · rw [List.getElem?_append_left hi] at hx
    rw [List.getElem?_append_left (by rw [← h.1]; exact hi)] at hy
    exact h.2 i x y hx hy
  · rw [List.getElem?_append_right (by omega)] at hx
    rw [List.getElem?_append_right (by rw [← h.1]; omega), ← h.1] at hy
    exact k.2 _ x y hx hy
theorem PRs.one {w : World} {a : V} {b : Value} (h : PR (fun _ => False) w a b) : PRs w [a] [b] := ⟨rfl, fun i x y hx hy => by
  cases i with
  | zero => simp at hx hy; rw [← hx, ← hy]; exact h
  | succ i => simp at hx⟩
theorem PRs.vrs {w : World} {vs : List V} {cs : List Value} (h : PRs w vs cs) : VRs (fun _ _ => none) (fun _ => False) w vs cs := ⟨h.1, fun i a b ha hb => (h.2 i a b ha hb).vr⟩
section
variable {H : Type} {enc : TypeId × Value → H} {P : Program} {w : World} {base : Nat} {sp : Nat → Bool} {held : Bool}
end
end Go.AM
set_option maxRecDepth 100000
namespace Go.Proofs.YtfnkpedipicjnaaDoor
open Go.ChangeShapes Go.WideShapes Go.ChangeAt Go.RowKit Go.AM
theorem mixed : Tryd.prog.follows .mixedOrders = true := by kernel_rfl
theorem idx_prim {px : PX} : FunOk Tryd.prog px 15 (.prim idxG) := idx_ok (Go.Proofs.enters_of Tryd.func15 (by kernel_rfl) rfl) (fun s c w => Any.strings_IndexByte Tryd.idxK s c w)
theorem atoi_prim {px : PX} : FunOk Tryd.prog px 21 (.prim atoiG) := atoi_ok (t := Tryd.atoiK_ren.t 5) (Go.Proofs.enters_of Tryd.func21 (by kernel_rfl) rfl) (fun s n h1 h2 w => Any.strconv_Atoi Tryd.atoiK s n h1 h2 w)
theorem CQp_ok : ∀ k c, CQp k = some c → FunOk Tryd.prog (PXf (fun _ => none)) k c := by
  intro k c h
  unfold CQp at h
  split at h
  · rename_i e; subst e; cases h; exact idx_prim
  · split at h
    · rename_i e; subst e; cases h; exact atoi_prim
    · exact CQ_ok (fun _ => none) k c h
theorem lexes_prim : FunOk Tryd.prog (PXf (fun _ => none)) 11 (.prim (primC (bl true))) := prim_ok mixed CQp_ok lexes_true rfl
theorem lexes_fun {CT : Nat → Option CFun} (hT : CT k_gnomonlaw03_lexes = some (.prim (primC (bl true)))) (base : Nat) (H : Heap) : callW CT (.fn k_gnomonlaw03_lexes [] []) [] base H = some (.s (.bool true), H) := callW_eq (by simp only [evCall, hT]; rfl)
theorem door_met (os : Os) (args : Array Value) : laidMetH Tryd.prog Rows.tokenLexesRow.laid ((World.doorLaid Tryd.prog 400 os).forCall (fun _ _ => 0) ⟨#[], args, []⟩).memory := by
  rw [MakeChecks.laidMetH_plain _ _ _ (by kernel_rfl)]
  exact laidMet_of_run' 8 (by kernel_rfl) (by kernel_rfl)
end Go.Proofs.YtfnkpedipicjnaaDoor
set_option maxRecDepth 100000
namespace Go.Proofs.YtfnkpedipicjnaaDoor
open Go.AM
theorem KeepD.tr {m : Nat} {D : List Nat} {A B : Heap} (h : KeepD m D A B) (fr : List V) : KeepD m D A (Go.AM.trim m fr B) := KeepD.trim h (Nat.le_refl _) fr
theorem dec_val : ∀ (l : List UInt8) (acc : Nat), (∀ x ∈ l, Tok.digit x = true) → Lib.decFrom acc l = some (l.foldl (fun n c => n * 10 + (c.toNat - 48)) acc)
  | [], acc, _ => rfl
  | c :: l, acc, h => by
    have hc := h c List.mem_cons_self
    unfold Tok.digit at hc
    simp only [Bool.and_eq_true, decide_eq_true_eq] at hc
    simp only [Lib.decFrom, Lib.digitVal, if_pos hc, List.foldl_cons]
    exact dec_val l _ fun x hx => h x (List.mem_cons_of_mem _ hx)
theorem atoi_val (l : List UInt8) (h0 : l ≠ []) (h : ∀ x ∈ l, Tok.digit x = true) : Lib.atoi l = some (Tok.val l : Int) := by
  cases l with
  | nil => exact absurd rfl h0
  | cons c l =>
    have hc := h c List.mem_cons_self
    have e1 : (c == 45) = false := by rw [beq_eq_false_iff_ne]; rintro rfl; revert hc; decide
    have e2 : (c == 43) = false := by rw [beq_eq_false_iff_ne]; rintro rfl; revert hc; decide
    simp only [Lib.atoi, e1, e2, Bool.false_eq_true, if_false, Lib.decNat, List.isEmpty_cons]
    rw [dec_val _ _ h]
    rfl
section
variable {CT : Nat → Option CFun}
theorem lex_name (T : TL CT) {base m : Nat} {b : ByteArray} (hb : b.size ≤ 2 ^ 40) {d o h i : Nat} (hbo : base ≤ o) (hbi : base ≤ i) (hbm : base ≤ m) {H : Heap} {ln cl at' : Nat} {R : List (List V)} (st : LexSt m H o h i b ln cl at' R) (hl : ln ≤ at' + 1) (hc : cl ≤ at' + 1) (hR : R.length ≤ at' + 1) {c : UInt8} (hx : b.data.toList[at']? = some c) (hbl : Tok.blank c = false) (h59 : c ≠ 59) (hlt1 : Tok.letter c = true) :
    ∃ H', itW (evC (callW CT) itW base s_token_Lex_l0) [] m (frOf 106 (lexE b d h o)) H = itW (evC (callW CT) itW base s_token_Lex_l0) [] m (frOf 106 (lexE b d h o)) H' ∧ LexSt m H' o h i b ln (cl + (Tok.far Tok.within (b.data.toList.drop (at' + 1)) + 1)) (at' + (Tok.far Tok.within (b.data.toList.drop (at' + 1)) + 1)) (R ++ [tV ⟨1, c :: (b.data.toList.drop (at' + 1)).take (Tok.far Tok.within (b.data.toList.drop (at' + 1))), 0, ln, cl⟩]) ∧ KeepD m [o, i] H H' := by
  have hrd := st.rd
  have hh := st.hold
  have hrc : getC H i 0 = some [I ln, I cl, .s (.string b), I at'] := hrd
  have hlt : at' < b.size := (List.getElem?_eq_some_iff.1 hx).1
  have hlt' : ((at' : Int) < (b.size : Int)) := by omega
  have hdr : b.data.toList.drop at' = c :: b.data.toList.drop (at' + 1) := by
    rw [List.drop_eq_getElem_cons hlt, (List.getElem?_eq_some_iff.1 hx).2]
  have hidx : ∀ (s : ByteArray) (base : Nat) (H : Heap), callW CT (.fn k_strings_IndexByte [] []) [.s (.string s), .s (.int .u8 c.toNat)] base H = some (.s (.int .i64 (Lib.indexByte s.data.toList c)), H) := fun s base H => by
    refine callW_eq ?_
    simp only [evCall, T.idx]
    show some (V.s (.int .i64 (Lib.indexByte s.data.toList (c.toNat : Int).toNat.toUInt8)), H) = _
    rw [Int.toNat_natCast, show c.toNat.toUInt8 = c by simp]
  have hlet := fun base H => letter_fun T.letter c base H
  have hdig := fun base H => digit_fun T.digit c base H
  have hmL := st.len
  have hfar := fun base => far_fun T.far base (fun c base H => within_fun T.within (letter_fun T.letter) (digit_fun T.digit) c base H) ⟨_, rfl⟩ hb hrd (by omega)
  have hfl := Tok.far_le Tok.within (b.data.toList.drop (at' + 1))
  rw [List.length_drop, show b.data.toList.length = b.size from rfl] at hfl
  have hw : Tok.within c = true := by unfold Tok.within; rw [hlt1]; rfl
  simp only [hdr, Tok.far, if_pos hw] at hfar
  obtain ⟨id, g, H1, e1, s1, o1, m1, c1, k1⟩ := put_fun T.put T.step st hb hbo hbi hbm (n := Tok.far Tok.within (b.data.toList.drop (at' + 1)) + 1) (by omega) hl hc hR 1
  rw [hdr, List.take_succ_cons, Tok.spotL_flat _ _ (Tok.len_ne Tok.within (by decide) _ (Tok.not_ten (.inl hlt1))), List.length_cons, Tok.far_len] at s1
  rw [I, show ((1 : Nat) : Int) = 1 from rfl] at e1
  refine ⟨_, ?_, s1.trim (frOf 106 (lexE b d h o)), KeepD.tr k1 (frOf 106 (lexE b d h o))⟩
  have h59' : ((c.toNat : Int) == 59) = false := by rw [beq_eq_false_iff_ne]; intro e; exact h59 ((byte_ne c 59).2 e)
  rw [itW_step]
  simp only [lexE, I, a_token_Lex,s_token_Lex_l0_b, am0,am1,am2,am3,am4,am5,am6,am7,bl,i64,reduceIte,reduceCtorEq,Nat.reduceEqDiff,Nat.reduceLT,Nat.reduceLeDiff,Nat.reduceBEq,Nat.reduceAdd,fillA,splice,Nat.reduceMul,al0,al1,al2,al3,al4,al5,al6,al7,al8,al9,al10,al11,al12,al13,al14,al15,al16,al17,al18,al19,al20,al21,al22,al23,al24,al25,al26,al27,al28,al29,al30,al31,al32,al33,al34,amY,op_eqP, hh, hrc, hlt', hx, hidx, blank_m, hbl, h59', hlet, hlt1, hfar, e1]
theorem lex_sign (T : TL CT) {base m : Nat} {b : ByteArray} (hb : b.size ≤ 2 ^ 40) {d o h i : Nat} (hbo : base ≤ o) (hbi : base ≤ i) (hbm : base ≤ m) {H : Heap} {ln cl at' : Nat} {R : List (List V)} (st : LexSt m H o h i b ln cl at' R) (hl : ln ≤ at' + 1) (hc : cl ≤ at' + 1) (hR : R.length ≤ at' + 1) {c : UInt8} (hx : b.data.toList[at']? = some c) (hbl : Tok.blank c = false) (h59 : c ≠ 59) (hlt1 : Tok.letter c = false) (hdg : Tok.digit c = false) (hsg : Tok.sign c = true) :
    ∃ H', itW (evC (callW CT) itW base s_token_Lex_l0) [] m (frOf 106 (lexE b d h o)) H = itW (evC (callW CT) itW base s_token_Lex_l0) [] m (frOf 106 (lexE b d h o)) H' ∧ LexSt m H' o h i b ln (cl + 1) (at' + 1) (R ++ [tV ⟨3, [c], 0, ln, cl⟩]) ∧ KeepD m [o, i] H H' := by
  have hrd := st.rd
  have hh := st.hold
  have hrc : getC H i 0 = some [I ln, I cl, .s (.string b), I at'] := hrd
  have hlt : at' < b.size := (List.getElem?_eq_some_iff.1 hx).1
  have hlt' : ((at' : Int) < (b.size : Int)) := by omega
  have hdr : b.data.toList.drop at' = c :: b.data.toList.drop (at' + 1) := by
    rw [List.drop_eq_getElem_cons hlt, (List.getElem?_eq_some_iff.1 hx).2]
  have hidx : ∀ (s : ByteArray) (base : Nat) (H : Heap), callW CT (.fn k_strings_IndexByte [] []) [.s (.string s), .s (.int .u8 c.toNat)] base H = some (.s (.int .i64 (Lib.indexByte s.data.toList c)), H) := fun s base H => by
    refine callW_eq ?_
    simp only [evCall, T.idx]
    show some (V.s (.int .i64 (Lib.indexByte s.data.toList (c.toNat : Int).toNat.toUInt8)), H) = _
    rw [Int.toNat_natCast, show c.toNat.toUInt8 = c by simp]
  have hlet := fun base H => letter_fun T.letter c base H
  have hdig := fun base H => digit_fun T.digit c base H
  have hmL := st.len
  obtain ⟨id, g, H1, e1, s1, o1, m1, c1, k1⟩ := put_fun T.put T.step st hb hbo hbi hbm (n := 1) (by omega) hl hc hR 3
  rw [hdr, List.take_succ_cons, List.take_zero, Tok.spotL_flat _ _ (by simpa using Tok.not_ten (.inr (.inr hsg)))] at s1
  rw [I, show ((1 : Nat) : Int) = 1 from rfl, show ((3 : Nat) : Int) = 3 from rfl] at e1
  refine ⟨_, ?_, s1.trim (frOf 106 (lexE b d h o)), KeepD.tr k1 (frOf 106 (lexE b d h o))⟩
  have h59' : ((c.toNat : Int) == 59) = false := by rw [beq_eq_false_iff_ne]; intro e; exact h59 ((byte_ne c 59).2 e)
  rw [itW_step]
  simp only [lexE, I, a_token_Lex,s_token_Lex_l0_b, am0,am1,am2,am3,am4,am5,am6,am7,bl,i64,reduceIte,reduceCtorEq,Nat.reduceEqDiff,Nat.reduceLT,Nat.reduceLeDiff,Nat.reduceBEq,Nat.reduceAdd,fillA,splice,Nat.reduceMul,al0,al1,al2,al3,al4,al5,al6,al7,al8,al9,al10,al11,al12,al13,al14,al15,al16,al17,al18,al19,al20,al21,al22,al23,al24,al25,al26,al27,al28,al29,al30,al31,al32,al33,al34,amY,op_eqP, hh, hrc, hlt', hx, hidx, blank_m, sign_m, hbl, h59', hlet, hlt1, hdig, hdg, hsg, e1]
theorem bad_end {m d : Nat} {H : Heap} {x y : V} (hm : m ≤ H.length) (hd : getC H d 0 = some [x, y]) (hdm : d < m) (fr : List V) (c : List V) : getC (Go.AM.trim m fr (H.set d (.cells 0 c))) d 0 = some c ∧ KeepD m [d] H (Go.AM.trim m fr (H.set d (.cells 0 c))) :=
  ⟨trim_get (getC_put hd _) hdm, trim_le (by rw [List.length_set]; exact hm), fun id h1 h2 => by rw [trim_id _ _ _ h1, List.getElem?_set_ne (by simp at h2; exact Ne.symm h2)]⟩
theorem lex_byte (T : TL CT) {base m : Nat} {b : ByteArray} (hb : b.size ≤ 2 ^ 40) {d o h i : Nat} (hbo : base ≤ o) (hbi : base ≤ i) (hbm : base ≤ m) {H : Heap} {ln cl at' : Nat} {R : List (List V)} (st : LexSt m H o h i b ln cl at' R) (hl : ln ≤ at' + 1) (hc : cl ≤ at' + 1) (hR : R.length ≤ at' + 1) {c : UInt8} (hx : b.data.toList[at']? = some c) (hbl : Tok.blank c = false) (h59 : c ≠ 59) (hlt1 : Tok.letter c = false) (hdg : Tok.digit c = false) (hsg : Tok.sign c = false) (hd : ∃ x y, getC H d 0 = some [x, y]) (hbd : base ≤ d) (hdm : d < m) :
    ∃ H', itW (evC (callW CT) itW base s_token_Lex_l0) [] m (frOf 106 (lexE b d h o)) H = some (.ret, frOf 106 [(2, nilS), (3, .ref d 0 0), (4, .s (.int .i64 30))], H') ∧ getC H' d 0 = some [I ln, I cl] ∧ KeepD m [d] H H' := by
  have hrd := st.rd
  have hh := st.hold
  have hrc : getC H i 0 = some [I ln, I cl, .s (.string b), I at'] := hrd
  have hlt : at' < b.size := (List.getElem?_eq_some_iff.1 hx).1
  have hlt' : ((at' : Int) < (b.size : Int)) := by omega
  have hdr : b.data.toList.drop at' = c :: b.data.toList.drop (at' + 1) := by
    rw [List.drop_eq_getElem_cons hlt, (List.getElem?_eq_some_iff.1 hx).2]
  have hidx : ∀ (s : ByteArray) (base : Nat) (H : Heap), callW CT (.fn k_strings_IndexByte [] []) [.s (.string s), .s (.int .u8 c.toNat)] base H = some (.s (.int .i64 (Lib.indexByte s.data.toList c)), H) := fun s base H => by
    refine callW_eq ?_
    simp only [evCall, T.idx]
    show some (V.s (.int .i64 (Lib.indexByte s.data.toList (c.toNat : Int).toNat.toUInt8)), H) = _
    rw [Int.toNat_natCast, show c.toNat.toUInt8 = c by simp]
  have hlet := fun base H => letter_fun T.letter c base H
  have hdig := fun base H => digit_fun T.digit c base H
  have hmL := st.len
  obtain ⟨x, y, hd⟩ := hd
  obtain ⟨s1, s2⟩ := bad_end hmL hd hdm (frOf 106 [(2, nilS), (3, .ref d 0 0), (4, .s (.int .i64 30))]) [I ln, I cl]
  refine ⟨_, ?_, s1, s2⟩
  have h59' : ((c.toNat : Int) == 59) = false := by rw [beq_eq_false_iff_ne]; intro e; exact h59 ((byte_ne c 59).2 e)
  rw [itW_step]
  simp only [lexE, nilS, I, a_token_Lex,s_token_Lex_l0_b, am0,am1,am2,am3,am4,am5,am6,am7,bl,i64,reduceIte,reduceCtorEq,Nat.reduceEqDiff,Nat.reduceLT,Nat.reduceLeDiff,Nat.reduceBEq,Nat.reduceAdd,fillA,splice,Nat.reduceMul,al0,al1,al2,al3,al4,al5,al6,al7,al8,al9,al10,al11,al12,al13,al14,al15,al16,al17,al18,al19,al20,al21,al22,al23,al24,al25,al26,al27,al28,al29,al30,al31,al32,al33,al34,amY,op_eqP, hh, hrc, hlt', hx, hidx, blank_m, sign_m, hbl, h59', hlet, hlt1, hdig, hdg, hsg, hd, hbd]
theorem lex_num_bad (T : TL CT) {base m : Nat} {b : ByteArray} (hb : b.size ≤ 2 ^ 40) {d o h i : Nat} (hbo : base ≤ o) (hbi : base ≤ i) (hbm : base ≤ m) {H : Heap} {ln cl at' : Nat} {R : List (List V)} (st : LexSt m H o h i b ln cl at' R) (hl : ln ≤ at' + 1) (hc : cl ≤ at' + 1) (hR : R.length ≤ at' + 1) {c : UInt8} (hx : b.data.toList[at']? = some c) (hbl : Tok.blank c = false) (h59 : c ≠ 59) (hlt1 : Tok.letter c = false) (hdg : Tok.digit c = true) (hd : ∃ x y, getC H d 0 = some [x, y]) (hbd : base ≤ d) (hdm : d < m) (hco : (9 < Tok.far Tok.digit (b.data.toList.drop (at' + 1)) + 1 ∨ (1 < Tok.far Tok.digit (b.data.toList.drop (at' + 1)) + 1 ∧ c = 48) ∨ Tok.far Tok.digit (b.data.toList.drop (at' + 1)) < Tok.far Tok.within (b.data.toList.drop (at' + 1)))) :
    ∃ H', itW (evC (callW CT) itW base s_token_Lex_l0) [] m (frOf 106 (lexE b d h o)) H = some (.ret, frOf 106 [(2, nilS), (3, .ref d 0 0), (4, .s (.int .i64 31))], H') ∧ getC H' d 0 = some [I ln, I cl] ∧ KeepD m [d] H H' := by
  have hrd := st.rd
  have hh := st.hold
  have hrc : getC H i 0 = some [I ln, I cl, .s (.string b), I at'] := hrd
  have hlt : at' < b.size := (List.getElem?_eq_some_iff.1 hx).1
  have hlt' : ((at' : Int) < (b.size : Int)) := by omega
  have hdr : b.data.toList.drop at' = c :: b.data.toList.drop (at' + 1) := by
    rw [List.drop_eq_getElem_cons hlt, (List.getElem?_eq_some_iff.1 hx).2]
  have hidx : ∀ (s : ByteArray) (base : Nat) (H : Heap), callW CT (.fn k_strings_IndexByte [] []) [.s (.string s), .s (.int .u8 c.toNat)] base H = some (.s (.int .i64 (Lib.indexByte s.data.toList c)), H) := fun s base H => by
    refine callW_eq ?_
    simp only [evCall, T.idx]
    show some (V.s (.int .i64 (Lib.indexByte s.data.toList (c.toNat : Int).toNat.toUInt8)), H) = _
    rw [Int.toNat_natCast, show c.toNat.toUInt8 = c by simp]
  have hlet := fun base H => letter_fun T.letter c base H
  have hdig := fun base H => digit_fun T.digit c base H
  have hmL := st.len
  have hfd := fun base => far_fun T.far base (fun c base H => digit_fun T.digit c base H) ⟨_, rfl⟩ hb hrd (by omega)
  have hfw := fun base => far_fun T.far base (fun c base H => within_fun T.within (letter_fun T.letter) (digit_fun T.digit) c base H) ⟨_, rfl⟩ hb hrd (by omega)
  have hfl := Tok.far_le Tok.digit (b.data.toList.drop (at' + 1))
  rw [List.length_drop, show b.data.toList.length = b.size from rfl] at hfl
  have hw : Tok.within c = true := by unfold Tok.within; rw [hdg, hlt1]; rfl
  simp only [hdr, Tok.far, if_pos hw] at hfw
  simp only [hdr, Tok.far, if_pos hdg] at hfd
  have h59' : ((c.toNat : Int) == 59) = false := by rw [beq_eq_false_iff_ne]; intro e; exact h59 ((byte_ne c 59).2 e)
  have h48 : ((c.toNat : Int) == 48) = decide (c = 48) := by rw [Bool.eq_iff_iff, beq_iff_eq, decide_eq_true_iff, byte_ne]; rfl
  have q1 : decide ((((Tok.far Tok.digit (b.data.toList.drop (at' + 1)) + 1 : Nat) : Int)) > 9) = decide (9 < Tok.far Tok.digit (b.data.toList.drop (at' + 1)) + 1) := by rw [Bool.eq_iff_iff, decide_eq_true_iff, decide_eq_true_iff]; omega
  have q2 : decide ((((Tok.far Tok.digit (b.data.toList.drop (at' + 1)) + 1 : Nat) : Int)) > 1) = decide (1 < Tok.far Tok.digit (b.data.toList.drop (at' + 1)) + 1) := by rw [Bool.eq_iff_iff, decide_eq_true_iff, decide_eq_true_iff]; omega
  have q3 : decide ((((Tok.far Tok.within (b.data.toList.drop (at' + 1)) + 1 : Nat) : Int)) > ((Tok.far Tok.digit (b.data.toList.drop (at' + 1)) + 1 : Nat) : Int)) = decide (Tok.far Tok.digit (b.data.toList.drop (at' + 1)) < Tok.far Tok.within (b.data.toList.drop (at' + 1))) := by rw [Bool.eq_iff_iff, decide_eq_true_iff, decide_eq_true_iff]; omega
  obtain ⟨x, y, hd⟩ := hd
  obtain ⟨s1, s2⟩ := bad_end hmL hd hdm (frOf 106 [(2, nilS), (3, .ref d 0 0), (4, .s (.int .i64 31))]) [I ln, I cl]
  refine ⟨_, ?_, s1, s2⟩
  rw [itW_step]
  by_cases a1 : 9 < Tok.far Tok.digit (b.data.toList.drop (at' + 1)) + 1
  · simp only [lexE, nilS, I, a_token_Lex,s_token_Lex_l0_b, am0,am1,am2,am3,am4,am5,am6,am7,bl,i64,reduceIte,reduceCtorEq,Nat.reduceEqDiff,Nat.reduceLT,Nat.reduceLeDiff,Nat.reduceBEq,Nat.reduceAdd,fillA,splice,Nat.reduceMul,al0,al1,al2,al3,al4,al5,al6,al7,al8,al9,al10,al11,al12,al13,al14,al15,al16,al17,al18,al19,al20,al21,al22,al23,al24,al25,al26,al27,al28,al29,al30,al31,al32,al33,al34,amY,op_eqP, hh, hrc, hlt', hx, hidx, blank_m, sign_m, hbl, h59', hlet, hlt1, hdig, hdg, hfd, hfw, h48, q1, q2, q3, a1, decide_true, hd, hbd]
  · by_cases a2 : 1 < Tok.far Tok.digit (b.data.toList.drop (at' + 1)) + 1
    · by_cases a3 : c = 48
      · have a5 := decide_eq_true a3
        simp only [lexE, nilS, I, a_token_Lex,s_token_Lex_l0_b, am0,am1,am2,am3,am4,am5,am6,am7,bl,i64,reduceIte,reduceCtorEq,Nat.reduceEqDiff,Nat.reduceLT,Nat.reduceLeDiff,Nat.reduceBEq,Nat.reduceAdd,fillA,splice,Nat.reduceMul,al0,al1,al2,al3,al4,al5,al6,al7,al8,al9,al10,al11,al12,al13,al14,al15,al16,al17,al18,al19,al20,al21,al22,al23,al24,al25,al26,al27,al28,al29,al30,al31,al32,al33,al34,amY,op_eqP, hh, hrc, hlt', hx, hidx, blank_m, sign_m, hbl, h59', hlet, hlt1, hdig, hdg, hfd, hfw, h48, q1, q2, q3, a1, a2, a5, decide_true, decide_false, hd, hbd]
      · have a4 : Tok.far Tok.digit (b.data.toList.drop (at' + 1)) < Tok.far Tok.within (b.data.toList.drop (at' + 1)) := by
          rcases hco with h | ⟨_, h⟩ | h
          · exact absurd h a1
          · exact absurd h a3
          · exact h
        have a5 := decide_eq_false a3
        simp only [lexE, nilS, I, a_token_Lex,s_token_Lex_l0_b, am0,am1,am2,am3,am4,am5,am6,am7,bl,i64,reduceIte,reduceCtorEq,Nat.reduceEqDiff,Nat.reduceLT,Nat.reduceLeDiff,Nat.reduceBEq,Nat.reduceAdd,fillA,splice,Nat.reduceMul,al0,al1,al2,al3,al4,al5,al6,al7,al8,al9,al10,al11,al12,al13,al14,al15,al16,al17,al18,al19,al20,al21,al22,al23,al24,al25,al26,al27,al28,al29,al30,al31,al32,al33,al34,amY,op_eqP, hh, hrc, hlt', hx, hidx, blank_m, sign_m, hbl, h59', hlet, hlt1, hdig, hdg, hfd, hfw, h48, q1, q2, q3, a1, a2, a5, a4, decide_true, decide_false, hd, hbd]
    · have a4 : Tok.far Tok.digit (b.data.toList.drop (at' + 1)) < Tok.far Tok.within (b.data.toList.drop (at' + 1)) := by
        rcases hco with h | ⟨h, _⟩ | h
        · exact absurd h a1
        · exact absurd h a2
        · exact h
      simp only [lexE, nilS, I, a_token_Lex,s_token_Lex_l0_b, am0,am1,am2,am3,am4,am5,am6,am7,bl,i64,reduceIte,reduceCtorEq,Nat.reduceEqDiff,Nat.reduceLT,Nat.reduceLeDiff,Nat.reduceBEq,Nat.reduceAdd,fillA,splice,Nat.reduceMul,al0,al1,al2,al3,al4,al5,al6,al7,al8,al9,al10,al11,al12,al13,al14,al15,al16,al17,al18,al19,al20,al21,al22,al23,al24,al25,al26,al27,al28,al29,al30,al31,al32,al33,al34,amY,op_eqP, hh, hrc, hlt', hx, hidx, blank_m, sign_m, hbl, h59', hlet, hlt1, hdig, hdg, hfd, hfw, h48, q1, q2, q3, a1, a2, a4, decide_true, decide_false, hd, hbd]
theorem lex_num (T : TL CT) {base m : Nat} {b : ByteArray} (hb : b.size ≤ 2 ^ 40) {d o h i : Nat} (hbo : base ≤ o) (hbi : base ≤ i) (hbm : base ≤ m) {H : Heap} {ln cl at' : Nat} {R : List (List V)} (st : LexSt m H o h i b ln cl at' R) (hl : ln ≤ at' + 1) (hc : cl ≤ at' + 1) (hR : R.length ≤ at' + 1) {c : UInt8} (hx : b.data.toList[at']? = some c) (hbl : Tok.blank c = false) (h59 : c ≠ 59) (hlt1 : Tok.letter c = false) (hdg : Tok.digit c = true) (hco : ¬ (9 < Tok.far Tok.digit (b.data.toList.drop (at' + 1)) + 1 ∨ (1 < Tok.far Tok.digit (b.data.toList.drop (at' + 1)) + 1 ∧ c = 48) ∨ Tok.far Tok.digit (b.data.toList.drop (at' + 1)) < Tok.far Tok.within (b.data.toList.drop (at' + 1)))) :
    ∃ H', itW (evC (callW CT) itW base s_token_Lex_l0) [] m (frOf 106 (lexE b d h o)) H = itW (evC (callW CT) itW base s_token_Lex_l0) [] m (frOf 106 (lexE b d h o)) H' ∧ LexSt m H' o h i b ln (cl + (Tok.far Tok.digit (b.data.toList.drop (at' + 1)) + 1)) (at' + (Tok.far Tok.digit (b.data.toList.drop (at' + 1)) + 1)) (R ++ [tV ⟨2, c :: (b.data.toList.drop (at' + 1)).take (Tok.far Tok.digit (b.data.toList.drop (at' + 1))), Tok.val (c :: (b.data.toList.drop (at' + 1)).take (Tok.far Tok.digit (b.data.toList.drop (at' + 1)))), ln, cl⟩]) ∧ KeepD m [o, i] H H' := by
  have hrd := st.rd
  have hh := st.hold
  have hrc : getC H i 0 = some [I ln, I cl, .s (.string b), I at'] := hrd
  have hlt : at' < b.size := (List.getElem?_eq_some_iff.1 hx).1
  have hlt' : ((at' : Int) < (b.size : Int)) := by omega
  have hdr : b.data.toList.drop at' = c :: b.data.toList.drop (at' + 1) := by
    rw [List.drop_eq_getElem_cons hlt, (List.getElem?_eq_some_iff.1 hx).2]
  have hidx : ∀ (s : ByteArray) (base : Nat) (H : Heap), callW CT (.fn k_strings_IndexByte [] []) [.s (.string s), .s (.int .u8 c.toNat)] base H = some (.s (.int .i64 (Lib.indexByte s.data.toList c)), H) := fun s base H => by
    refine callW_eq ?_
    simp only [evCall, T.idx]
    show some (V.s (.int .i64 (Lib.indexByte s.data.toList (c.toNat : Int).toNat.toUInt8)), H) = _
    rw [Int.toNat_natCast, show c.toNat.toUInt8 = c by simp]
  have hlet := fun base H => letter_fun T.letter c base H
  have hdig := fun base H => digit_fun T.digit c base H
  have hmL := st.len
  have hfd := fun base => far_fun T.far base (fun c base H => digit_fun T.digit c base H) ⟨_, rfl⟩ hb hrd (by omega)
  have hfw := fun base => far_fun T.far base (fun c base H => within_fun T.within (letter_fun T.letter) (digit_fun T.digit) c base H) ⟨_, rfl⟩ hb hrd (by omega)
  have hfl := Tok.far_le Tok.digit (b.data.toList.drop (at' + 1))
  rw [List.length_drop, show b.data.toList.length = b.size from rfl] at hfl
  have hw : Tok.within c = true := by unfold Tok.within; rw [hdg, hlt1]; rfl
  simp only [hdr, Tok.far, if_pos hw] at hfw
  simp only [hdr, Tok.far, if_pos hdg] at hfd
  have h59' : ((c.toNat : Int) == 59) = false := by rw [beq_eq_false_iff_ne]; intro e; exact h59 ((byte_ne c 59).2 e)
  have h48 : ((c.toNat : Int) == 48) = decide (c = 48) := by rw [Bool.eq_iff_iff, beq_iff_eq, decide_eq_true_iff, byte_ne]; rfl
  have q1 : decide ((((Tok.far Tok.digit (b.data.toList.drop (at' + 1)) + 1 : Nat) : Int)) > 9) = decide (9 < Tok.far Tok.digit (b.data.toList.drop (at' + 1)) + 1) := by rw [Bool.eq_iff_iff, decide_eq_true_iff, decide_eq_true_iff]; omega
  have q2 : decide ((((Tok.far Tok.digit (b.data.toList.drop (at' + 1)) + 1 : Nat) : Int)) > 1) = decide (1 < Tok.far Tok.digit (b.data.toList.drop (at' + 1)) + 1) := by rw [Bool.eq_iff_iff, decide_eq_true_iff, decide_eq_true_iff]; omega
  have q3 : decide ((((Tok.far Tok.within (b.data.toList.drop (at' + 1)) + 1 : Nat) : Int)) > ((Tok.far Tok.digit (b.data.toList.drop (at' + 1)) + 1 : Nat) : Int)) = decide (Tok.far Tok.digit (b.data.toList.drop (at' + 1)) < Tok.far Tok.within (b.data.toList.drop (at' + 1))) := by rw [Bool.eq_iff_iff, decide_eq_true_iff, decide_eq_true_iff]; omega
  obtain ⟨id, g, H1, e1, s1, o1, m1, c1, k1⟩ := put_fun T.put T.step st hb hbo hbi hbm (n := Tok.far Tok.digit (b.data.toList.drop (at' + 1)) + 1) (by omega) hl hc hR 2
  rw [hdr, List.take_succ_cons, Tok.spotL_flat _ _ (Tok.len_ne Tok.digit (by decide) _ (Tok.not_ten (.inr (.inl hdg)))), List.length_cons, Tok.far_len] at s1
  rw [hdr, List.take_succ_cons] at c1
  rw [I, show ((2 : Nat) : Int) = 2 from rfl] at e1
  have a1 : ¬ 9 < Tok.far Tok.digit (b.data.toList.drop (at' + 1)) + 1 := fun h => hco (.inl h)
  have a4 : ¬ Tok.far Tok.digit (b.data.toList.drop (at' + 1)) < Tok.far Tok.within (b.data.toList.drop (at' + 1)) := fun h => hco (.inr (.inr h))
  have a3 : decide (1 < Tok.far Tok.digit (b.data.toList.drop (at' + 1)) + 1) = true → decide (c = 48) = false := fun h => decide_eq_false fun e => hco (.inr (.inl ⟨of_decide_eq_true h, e⟩))
  obtain ⟨txt, htxt⟩ : ∃ txt, (c :: (b.data.toList.drop (at' + 1)).take (Tok.far Tok.digit (b.data.toList.drop (at' + 1)))) = txt := ⟨_, rfl⟩
  rw [htxt] at c1 s1 ⊢
  have hix : ∀ (s : ByteArray), (c :: s.data.toList) = s.data.toList → False := fun s e => by have := congrArg List.length e; simp at this
  have hat : ∀ base H, callW CT (.fn k_strconv_Atoi [] []) [.s (.string ⟨txt.toArray⟩)] base H = some (.tup [I (Tok.val txt), .s .nilIface], H) := by
    intro base H
    refine callW_eq ?_
    simp only [evCall, T.atoi]
    show atoiG [.s (.string ⟨txt.toArray⟩)] base H = _
    have h9 : txt.length ≤ 9 := by rw [← htxt, List.length_cons, Tok.far_len]; omega
    have hsz : (ByteArray.mk txt.toArray).size ≤ 18 := by show txt.toArray.size ≤ 18; rw [List.size_toArray]; omega
    simp only [atoiG, hsz, if_true]
    rw [atoi_val txt (by rw [← htxt]; simp) (by rw [← htxt]; exact fun x hx => (List.mem_cons.1 hx).elim (fun e => e ▸ hdg) (fun hx => Tok.far_take _ _ _ hx))]
    rfl
  have hRw : ∀ r ∈ R, r.length = 5 := by obtain ⟨v, _, hv, _⟩ := st.out; exact hv
  have hfl5 := flat_len R hRw
  have hdrop : List.drop (R.length * 5 + 1) (R ++ [tV ⟨2, txt, 0, ln, cl⟩]).flatten = [.s (.string ⟨txt.toArray⟩), I ((0 : Nat) : Int), I ln, I cl] := by
    rw [List.flatten_append, List.drop_append, List.drop_eq_nil_of_le (by omega), hfl5]
    rw [show R.length * 5 + 1 - R.length * 5 = 1 by omega]
    rfl
  have hbid : base ≤ id := by omega
  have hlen5 : (R ++ [tV ⟨2, txt, 0, ln, cl⟩]).flatten.length = R.length * 5 + 5 := by
    rw [List.flatten_append, List.length_append, hfl5]
    rfl
  have hle3 : R.length * 5 + 3 ≤ (R ++ [tV ⟨2, txt, 0, ln, cl⟩]).flatten.length := by omega
  have hcell : List.take (R.length * 5 + 2) (R ++ [tV ⟨2, txt, 0, ln, cl⟩]).flatten ++ [V.s (Value.int IntKind.i64 (Tok.val txt : Nat))] ++ List.drop (R.length * 5 + 3) (R ++ [tV ⟨2, txt, 0, ln, cl⟩]).flatten = (R ++ [tV ⟨2, txt, Tok.val txt, ln, cl⟩]).flatten := by
    rw [List.flatten_append, List.flatten_append, List.take_append, List.drop_append, List.take_of_length_le (by omega), List.drop_eq_nil_of_le (by omega), hfl5, show R.length * 5 + 2 - R.length * 5 = 2 by omega, show R.length * 5 + 3 - R.length * 5 = 3 by omega, List.append_assoc, List.append_assoc]
    rfl
  obtain ⟨H2, hH2⟩ : ∃ H2, H1.set id (.cells g (R ++ [tV ⟨2, txt, Tok.val txt, ln, cl⟩]).flatten) = H2 := ⟨_, rfl⟩
  have k2 : ∀ x, x < m → H2[x]? = H1[x]? := fun x hx => by rw [← hH2, List.getElem?_set_ne (by omega)]
  have cc : ∀ {x : Nat} {c : List V}, x < m → getC H1 x 0 = some c → getC H2 x 0 = some c := fun {x c} hx hg => by unfold getC at hg ⊢; rw [k2 x hx]; exact hg
  have s2 : LexSt m H2 o h i b ln (cl + (Tok.far Tok.digit (b.data.toList.drop (at' + 1)) + 1)) (at' + (Tok.far Tok.digit (b.data.toList.drop (at' + 1)) + 1)) (R ++ [tV ⟨2, txt, Tok.val txt, ln, cl⟩]) := by
    refine ⟨cc s1.lt.1 s1.hold, cc s1.lt.2.1 s1.rd, ⟨_, cc s1.lt.2.2 o1, ?_, .inr ⟨id, g, by simp, ?_, m1⟩⟩, by rw [← hH2, List.length_set]; exact s1.len, s1.lt, s1.ne⟩
    · intro r hr
      rcases List.mem_append.1 hr with hr | hr
      · exact hRw r hr
      · rw [List.mem_singleton] at hr; subst hr; rfl
    · rw [← hH2]; exact getC_put c1 _
  have k3 : KeepD m [o, i] H H2 := ⟨by rw [← hH2, List.length_set]; exact s1.len, fun x hx hn => by rw [k2 x hx, k1.2 x hx hn]⟩
  refine ⟨_, ?_, s2.trim (frOf 106 (lexE b d h o)), KeepD.tr k3 (frOf 106 (lexE b d h o))⟩
  rw [itW_step]
  cases a2 : decide (1 < Tok.far Tok.digit (b.data.toList.drop (at' + 1)) + 1) with
  | true =>
    have a5 := a3 a2
    simp only [lexE, nilS, I, a_token_Lex,s_token_Lex_l0_b, am0,am1,am2,am3,am4,am5,am6,am7,bl,i64,reduceIte,reduceCtorEq,Nat.reduceEqDiff,Nat.reduceLT,Nat.reduceLeDiff,Nat.reduceBEq,Nat.reduceAdd,fillA,splice,Nat.reduceMul,al0,al1,al2,al3,al4,al5,al6,al7,al8,al9,al10,al11,al12,al13,al14,al15,al16,al17,al18,al19,al20,al21,al22,al23,al24,al25,al26,al27,al28,al29,al30,al31,al32,al33,al34,amY,op_eqP, hh, hrc, hlt', hx, hidx, blank_m, sign_m, hbl, h59', hlet, hlt1, hdig, hdg, hfd, hfw, h48, q1, q2, q3, a1, a2, a5, a4, decide_true, decide_false, e1, c1, hdrop, hat, hbid, hle3, hcell, hH2]
  | false =>
    simp only [lexE, nilS, I, a_token_Lex,s_token_Lex_l0_b, am0,am1,am2,am3,am4,am5,am6,am7,bl,i64,reduceIte,reduceCtorEq,Nat.reduceEqDiff,Nat.reduceLT,Nat.reduceLeDiff,Nat.reduceBEq,Nat.reduceAdd,fillA,splice,Nat.reduceMul,al0,al1,al2,al3,al4,al5,al6,al7,al8,al9,al10,al11,al12,al13,al14,al15,al16,al17,al18,al19,al20,al21,al22,al23,al24,al25,al26,al27,al28,al29,al30,al31,al32,al33,al34,amY,op_eqP, hh, hrc, hlt', hx, hidx, blank_m, sign_m, hbl, h59', hlet, hlt1, hdig, hdg, hfd, hfw, h48, q1, q2, q3, a1, a2, a4, decide_true, decide_false, e1, c1, hdrop, hat, hbid, hle3, hcell, hH2]
end
end Go.Proofs.YtfnkpedipicjnaaDoor
set_option maxRecDepth 100000
namespace Go.Proofs.YtfnkpedipicjnaaDoor
open Go.AM
def LexRes (m d h o i : Nat) (b : ByteArray) (R : List (List V)) (H : Heap) (out : Tok.Out) (X : Option St) : Prop :=
  (∃ ts ln cl H', out = .done (ts ++ [⟨4, [], 0, ln, cl⟩]) ∧ X = some (.ext 0, frOf 106 (lexE b d h o ++ [(26, bl false)]), H') ∧ LexSt m H' o h i b ln cl b.size (R ++ ts.map tV) ∧ KeepD m [o, i] H H' ∧ ln ≤ b.size + 1 ∧ cl ≤ b.size + 1 ∧ R.length + ts.length ≤ b.size) ∨
  (∃ e a q H', out = .bad e a q ∧ X = some (.ret, frOf 106 [(2, nilS), (3, .ref d 0 0), (4, .s (.int .i64 e))], H') ∧ getC H' d 0 = some [I a, I q] ∧ KeepD m [o, i, d] H H')
theorem LexRes.keep {m d h o i : Nat} {b : ByteArray} {R : List (List V)} {H H2 : Heap} {out : Tok.Out} {X : Option St} (r : LexRes m d h o i b R H2 out X) (k : KeepD m [o, i] H H2) : LexRes m d h o i b R H out X := by
  rcases r with ⟨ts, ln, cl, H', h1, h2, h3, h4, h5⟩ | ⟨e, a, q, H', h1, h2, h3, h4⟩
  · exact .inl ⟨ts, ln, cl, H', h1, h2, h3, k.trans h4 (Nat.le_refl _), h5⟩
  · exact .inr ⟨e, a, q, H', h1, h2, h3, (KeepD.mono k (Nat.le_refl _) (fun id _ hx => by simp at hx ⊢; rcases hx with h | h <;> simp [h])).trans h4 (Nat.le_refl _)⟩
theorem LexRes.cons {m d h o i : Nat} {b : ByteArray} {R : List (List V)} {H H2 : Heap} {out : Tok.Out} {X : Option St} {t : Tok.T} (r : LexRes m d h o i b (R ++ [tV t]) H2 out X) (k : KeepD m [o, i] H H2) : LexRes m d h o i b R H (.cons t out) X := by
  rcases r.keep k with ⟨ts, ln, cl, H', rfl, h2, h3, h4, h5, h6, h7⟩ | ⟨e, a, q, H', rfl, h2, h3, h4⟩
  · refine .inl ⟨t :: ts, ln, cl, H', rfl, h2, ?_, h4, h5, h6, ?_⟩
    · rw [List.map_cons, ← List.singleton_append, ← List.append_assoc]; exact h3
    · rw [List.length_append, List.length_singleton] at h7
      rw [List.length_cons]; omega
  · exact .inr ⟨e, a, q, H', rfl, h2, h3, h4⟩
section
variable {CT : Nat → Option CFun}
theorem lex_loop (T : TL CT) {base m : Nat} {b : ByteArray} (hb : b.size ≤ 2 ^ 40) {d o h i : Nat} (hbo : base ≤ o) (hbi : base ≤ i) (hbm : base ≤ m) (hbd : base ≤ d) (hdm : d < m) (hdn : d ∉ [o, i]) : ∀ (N : Nat) (at' ln cl : Nat) (R : List (List V)) (H : Heap), b.size - at' ≤ N → at' ≤ b.size → LexSt m H o h i b ln cl at' R → ln ≤ at' + 1 → cl ≤ at' + 1 → R.length ≤ at' → (∃ x y, getC H d 0 = some [x, y]) →
    LexRes m d h o i b R H (Tok.lex (b.data.toList.drop at') ln cl) (itW (evC (callW CT) itW base s_token_Lex_l0) [] m (frOf 106 (lexE b d h o)) H) := by
  have hend : ∀ (at' ln cl : Nat) (R : List (List V)) (H : Heap), b.size - at' = 0 → at' ≤ b.size → LexSt m H o h i b ln cl at' R → ln ≤ at' + 1 → cl ≤ at' + 1 → R.length ≤ at' →
      LexRes m d h o i b R H (Tok.lex (b.data.toList.drop at') ln cl) (itW (evC (callW CT) itW base s_token_Lex_l0) [] m (frOf 106 (lexE b d h o)) H) := by
    intro at' ln cl R H h0 h1 st hl hc hR
    obtain rfl : at' = b.size := by omega
    have hrd := st.rd
    have hh := st.hold
    have hrc : getC H i 0 = some [I ln, I cl, .s (.string b), I b.size] := hrd
    rw [List.drop_eq_nil_of_le (show b.data.toList.length ≤ b.size from Nat.le_refl _), Tok.lex_nil]
    refine .inl ⟨[], ln, cl, _, rfl, ?_, by simpa using st.trim (frOf 106 (lexE b d h o ++ [(26, bl false)])), KeepD.tr (A := H) ⟨st.len, fun _ _ _ => rfl⟩ (frOf 106 (lexE b d h o ++ [(26, bl false)])), hl, hc, by simpa using hR⟩
    rw [itW_step]
    simp only [lexE, I, a_token_Lex,s_token_Lex_l0_b, am0,am1,am2,am3,am4,am5,am6,am7,bl,i64,reduceIte,reduceCtorEq,Nat.reduceEqDiff,Nat.reduceLT,Nat.reduceLeDiff,Nat.reduceBEq,Nat.reduceAdd,fillA,splice,Nat.reduceMul,al0,al1,al2,al3,al4,al5,al6,al7,al8,al9,al10,al11,al12,al13,al14,al15,al16,al17,al18,al19,al20,al21,al22,al23,al24,al25,al26,al27,al28,al29,al30,al31,al32,al33,al34,amY,op_eqP, hh, hrc, Int.lt_irrefl]
  intro N
  induction N with
  | zero => exact fun at' ln cl R H h0 h1 st hl hc hR _ => hend at' ln cl R H (by omega) h1 st hl hc hR
  | succ N ih =>
    intro at' ln cl R H h0 h1 st hl hc hR hd
    by_cases hz : at' = b.size
    · exact hend at' ln cl R H (by omega) h1 st hl hc hR
    have hlt : at' < b.data.toList.length := by show at' < b.size; omega
    obtain ⟨c, hx⟩ : ∃ c, b.data.toList[at']? = some c := ⟨_, List.getElem?_eq_getElem hlt⟩
    have hdr : b.data.toList.drop at' = c :: b.data.toList.drop (at' + 1) := by
      rw [List.drop_eq_getElem_cons hlt, (List.getElem?_eq_some_iff.1 hx).2]
    have hdd : ∀ k, (b.data.toList.drop (at' + 1)).drop k = b.data.toList.drop (at' + (k + 1)) := fun k => by rw [List.drop_drop]; congr 1; omega
    have hfl : ∀ p, at' + (Tok.far p (b.data.toList.drop (at' + 1)) + 1) ≤ b.size := fun p => by
      have := Tok.far_le p (b.data.toList.drop (at' + 1))
      rw [List.length_drop, show b.data.toList.length = b.size from rfl] at this
      have : at' < b.size := hlt
      omega
    have hsz : at' < b.size := hlt
    have kd : ∀ {H2 : Heap}, KeepD m [o, i] H H2 → ∃ x y, getC H2 d 0 = some [x, y] := fun k => by
      obtain ⟨x, y, hd⟩ := hd
      exact ⟨x, y, k.getC hd hdm hdn⟩
    rw [hdr, Tok.lex_cons]
    cases hbl : Tok.blank c with
    | true =>
      obtain ⟨H2, e, s, k⟩ := lex_blank T hb hbo hbi hbm (d := d) st hl hc (by omega) hx hbl
      rw [if_pos rfl, e]
      have r := ih _ _ _ R H2 (by omega) (by omega) s (by split <;> omega) (by split <;> omega) (by omega) (kd k)
      refine LexRes.keep ?_ k
      split <;> rename_i h10 <;> simp only [h10, if_true, if_false] at r ⊢ <;> exact r
    | false =>
      rw [if_neg (by simp)]
      by_cases h59 : c = 59
      · obtain ⟨H2, e, s, k⟩ := lex_comment T hb hbo hbi hbm (d := d) st hl hc (by omega) hx hbl h59
        rw [if_pos h59, e, hdd]
        exact LexRes.keep (ih _ _ _ R H2 (by omega) (hfl _) s (by omega) (by omega) (by omega) (kd k)) k
      · rw [if_neg h59]
        cases hlt1 : Tok.letter c with
        | true =>
          obtain ⟨H2, e, s, k⟩ := lex_name T hb hbo hbi hbm (d := d) st hl hc (by omega) hx hbl h59 hlt1
          rw [if_pos rfl, e, hdd]
          exact LexRes.cons (ih _ _ _ _ H2 (by omega) (hfl _) s (by omega) (by omega) (by simp; omega) (kd k)) k
        | false =>
          rw [if_neg (by simp)]
          cases hdg : Tok.digit c with
          | true =>
            rw [if_pos rfl]
            split
            · rename_i hco
              obtain ⟨H2, e, s, k⟩ := lex_num_bad T hb hbo hbi hbm st hl hc (by omega) hx hbl h59 hlt1 hdg hd hbd hdm hco
              rw [e]
              exact .inr ⟨31, ln, cl, H2, rfl, rfl, s, KeepD.mono k (Nat.le_refl _) (fun id _ hx => by simp at hx ⊢; simp [hx])⟩
            · rename_i hco
              obtain ⟨H2, e, s, k⟩ := lex_num T hb hbo hbi hbm (d := d) st hl hc (by omega) hx hbl h59 hlt1 hdg hco
              rw [e, hdd]
              exact LexRes.cons (ih _ _ _ _ H2 (by omega) (hfl _) s (by omega) (by omega) (by simp; omega) (kd k)) k
          | false =>
            rw [if_neg (by simp)]
            cases hsg : Tok.sign c with
            | true =>
              obtain ⟨H2, e, s, k⟩ := lex_sign T hb hbo hbi hbm (d := d) st hl hc (by omega) hx hbl h59 hlt1 hdg hsg
              rw [if_pos rfl, e]
              exact LexRes.cons (ih _ _ _ _ H2 (by omega) (by omega) s (by omega) (by omega) (by simp; omega) (kd k)) k
            | false =>
              obtain ⟨H2, e, s, k⟩ := lex_byte T hb hbo hbi hbm st hl hc (by omega) hx hbl h59 hlt1 hdg hsg hd hbd hdm
              rw [if_neg (by simp), e]
              exact .inr ⟨30, ln, cl, H2, rfl, rfl, s, KeepD.mono k (Nat.le_refl _) (fun id _ hx => by simp at hx ⊢; simp [hx])⟩
end
end Go.Proofs.YtfnkpedipicjnaaDoor
set_option maxRecDepth 100000
namespace Go.Proofs.YtfnkpedipicjnaaDoor
open Go.AM
def lexR (l : List UInt8) : List Tok.T × (Nat × Nat) × Nat := if 1048576 < l.length then ([], (0, 0), 2) else match Tok.lex l 1 1 with
  | .done ts => (ts, (0, 0), 0)
  | .bad e a q => ([], (a, q), e)
section
variable {CT : Nat → Option CFun}
theorem lex_fun (hT : CT k_token_Lex = some (.code s_token_Lex)) (T : TL CT) (base : Nat) (H : Heap) (hbase : base ≤ H.length) (b : ByteArray) (r : List Tok.T × (Nat × Nat) × Nat) (hr : lexR b.data.toList = r) :
    ∃ v H', callW CT (.fn k_token_Lex [] []) [.s (.string b)] base H = some (.tup [v, .agg [I r.2.1.1, I r.2.1.2], .s (.int .i64 r.2.2)], H') ∧ AccW H.length 5 H' v (r.1.map tV) ∧ KeepD H.length [] H H' := by
  have hb2 : base ≤ H.length + 2 := by omega
  by_cases hsz : 1048576 < b.size
  · have hr2 : r = ([], (0, 0), 2) := by rw [← hr]; exact if_pos hsz
    have hg : decide ((b.size : Int) > 1048576) = true := by rw [decide_eq_true_iff]; omega
    have e : callW CT (.fn k_token_Lex [] []) [.s (.string b)] base H = some (.tup [nilS, .agg [.s (.int .i64 0), .s (.int .i64 0)], .s (.int .i64 2)], H ++ [.cells 0 [.s (.int .i64 0), .s (.int .i64 0)]]) := by
      refine callW_fnA (c := s_token_Lex) (k := 1) hT rfl (by decide) s_token_Lex_first ?_
      simp only [s_token_Lex, nilS, a_token_Lex,s_token_Lex_l0_b, am0,am1,am2,am3,am4,am5,am6,am7,bl,i64,reduceIte,reduceCtorEq,Nat.reduceEqDiff,Nat.reduceLT,Nat.reduceLeDiff,Nat.reduceBEq,Nat.reduceAdd,fillA,splice,Nat.reduceMul,al0,al1,al2,al3,al4,al5,al6,al7,al8,al9,al10,al11,al12,al13,al14,al15,al16,al17,al18,al19,al20,al21,al22,al23,al24,al25,al26,al27,al28,al29,al30,al31,al32,al33,al34,amY,op_eqP, hg, hbase, hb2, xsub_fn2, resultV3, loadV_x]
    subst hr2
    exact ⟨_, _, e, AccW.start _ _ _, by simp, fun id h _ => by rw [List.getElem?_append_left h]⟩
  · have hg : decide ((b.size : Int) > 1048576) = false := by rw [decide_eq_false_iff_not]; omega
    obtain ⟨L, hL⟩ : ∃ L, H.length = L := ⟨_, rfl⟩
    obtain ⟨H4, hH4⟩ : ∃ H4, H ++ [Ob.cells 0 [V.s (Value.int IntKind.i64 0), V.s (Value.int IntKind.i64 0)]] ++ [Ob.cells 0 [V.s (Value.int IntKind.i64 1), V.s (Value.int IntKind.i64 1), V.s (Value.string b), V.s (Value.int IntKind.i64 0)]] ++ [Ob.cells 0 [V.ref (List.length H + 1) 0 0]] ++ [Ob.cells 0 [V.s (Value.slice none 0 0)]] = H4 := ⟨_, rfl⟩
    have k4 : ∀ x, x < L → H4[x]? = H[x]? := fun x hx => by rw [← hH4]; simp only [List.append_assoc]; rw [List.getElem?_append_left (by omega)]
    have l4 : H4.length = L + 4 := by rw [← hH4]; simp [hL]
    have g0 : getC H4 L 0 = some [I 0, I 0] := by rw [← hH4]; simp [getC, hL, I]
    have g1 : getC H4 (L + 1) 0 = some (rC 1 1 b 0) := by rw [← hH4]; simp [getC, hL, rC, I]
    have g2 : getC H4 (L + 2) 0 = some [.ref (L + 1) 0 0] := by rw [← hH4]; simp [getC, hL]
    have g3 : getC H4 (L + 3) 0 = some [nilS] := by rw [← hH4]; simp [getC, hL, nilS]
    have st : LexSt (L + 4) H4 (L + 3) (L + 2) (L + 1) b 1 1 0 [] := ⟨g2, g1, ⟨_, g3, AccW.start _ _ _⟩, by omega, by omega, by omega⟩
    have hlp := lex_loop T (base := base) (m := L + 4) (b := b) (by omega) (d := L) (o := L + 3) (h := L + 2) (i := L + 1) (by omega) (by omega) (by omega) (by omega) (by omega) (by simp) b.size 0 1 1 [] H4 (by omega) (by omega) st (by omega) (by omega) (by simp) ⟨_, _, g0⟩
    have hr3 : r = match Tok.lex b.data.toList 1 1 with
        | .done ts => (ts, (0, 0), 0)
        | .bad e a q => ([], (a, q), e) := by rw [← hr]; exact if_neg hsz
    rw [List.drop_zero] at hlp
    have hbL : base ≤ L := by omega
    have hbL2 : base ≤ L + 2 := by omega
    rcases hlp with ⟨ts, ln, cl, H', h1, h2, h3, h4, h5, h6, h7⟩ | ⟨e, a, q, H', h1, h2, h3, h4⟩
    · rw [h1] at hr3
      simp only at hr3
      subst hr3
      obtain ⟨id, g, H2, e1, s1, o1, m1, c1, k1⟩ := put_fun T.put T.step h3 (base := base) (by omega) (by omega) (by omega) (by omega) (n := 0) (by omega) h5 h6 (by simpa using Nat.le_succ_of_le h7) 4
      rw [I, show ((4 : Nat) : Int) = 4 from rfl, show ((0 : Nat) : Int) = 0 from rfl] at e1
      have d2 : getC H2 L 0 = some [I 0, I 0] := k1.getC (h4.getC g0 (by omega) (by simp)) (by omega) (by simp)
      obtain ⟨vv, hvv⟩ : ∃ vv, V.sl id g 0 (([] ++ ts.map tV).length + 1) 5 = vv := ⟨_, rfl⟩
      rw [hvv] at o1
      have o3 : ∀ ob, getC (H2.set L ob) (L + 3) 0 = some [vv] := fun ob => by rw [getC_set_ne _ (by omega)]; exact o1
      have d3 : ∀ c, getC (H2.set L (.cells 0 c)) L 0 = some c := fun c => getC_put d2 c
      have e : callW CT (.fn k_token_Lex [] []) [.s (.string b)] base H = some (.tup [vv, .agg [.s (.int .i64 0), .s (.int .i64 0)], .s (.int .i64 0)], H2.set L (.cells 0 [.s (.int .i64 0), .s (.int .i64 0)])) := by
        refine callW_fnA (c := s_token_Lex) (k := 1) hT rfl (by decide) s_token_Lex_first ?_
        simp only [lexE, nilS] at h2
        rw [hL] at hH4
        simp only [s_token_Lex, nilS, a_token_Lex,s_token_Lex_l0_b, am0,am1,am2,am3,am4,am5,am6,am7,bl,i64,reduceIte,reduceCtorEq,Nat.reduceEqDiff,Nat.reduceLT,Nat.reduceLeDiff,Nat.reduceBEq,Nat.reduceAdd,fillA,splice,Nat.reduceMul,al0,al1,al2,al3,al4,al5,al6,al7,al8,al9,al10,al11,al12,al13,al14,al15,al16,al17,al18,al19,al20,al21,al22,al23,al24,al25,al26,al27,al28,al29,al30,al31,al32,al33,al34,amY,op_eqP, hL, hg, hbL, hbL2, xsub_fn2, resultV3, loadV_x, hH4, l4, h2, e1, o1, d2, d3]
      refine ⟨_, _, e, ?_, ?_⟩
      · obtain ⟨v1, _, hv1, _⟩ := s1.out
        have hts : (ts ++ [(⟨4, [], 0, ln, cl⟩ : Tok.T)]).map tV = [] ++ ts.map tV ++ [tV ⟨4, (b.data.toList.drop b.size).take 0, 0, ln, cl⟩] := by rw [List.take_zero]; simp
        rw [hts]
        refine ⟨hv1, .inr ⟨id, g, ?_, ?_, by omega⟩⟩
        · rw [← hvv]; simp
        · unfold getC at c1 ⊢
          rw [List.getElem?_set_ne (by omega)]
          exact c1
      · refine ⟨by rw [List.length_set]; have := k1.1; omega, fun x hx _ => ?_⟩
        rw [List.getElem?_set_ne (by omega), k1.2 x (by omega) (by simp; omega), h4.2 x (by omega) (by simp; omega), k4 x (by omega)]
    · rw [h1] at hr3
      simp only at hr3
      subst hr3
      have e : callW CT (.fn k_token_Lex [] []) [.s (.string b)] base H = some (.tup [nilS, .agg [.s (.int .i64 a), .s (.int .i64 q)], .s (.int .i64 e)], H') := by
        refine callW_fnA (c := s_token_Lex) (k := 1) hT rfl (by decide) s_token_Lex_first ?_
        simp only [lexE, nilS] at h2
        rw [hL] at hH4
        simp only [s_token_Lex, nilS, a_token_Lex,s_token_Lex_l0_b, am0,am1,am2,am3,am4,am5,am6,am7,bl,i64,reduceIte,reduceCtorEq,Nat.reduceEqDiff,Nat.reduceLT,Nat.reduceLeDiff,Nat.reduceBEq,Nat.reduceAdd,fillA,splice,Nat.reduceMul,al0,al1,al2,al3,al4,al5,al6,al7,al8,al9,al10,al11,al12,al13,al14,al15,al16,al17,al18,al19,al20,al21,al22,al23,al24,al25,al26,al27,al28,al29,al30,al31,al32,al33,al34,amY,op_eqP, hL, hg, hbL, hbL2, xsub_fn2, resultV3, loadV_x, hH4, l4, h2, h3]
      exact ⟨_, _, e, AccW.start _ _ _, by have := h4.1; omega, fun id hid _ => by rw [h4.2 id (by omega) (by simp; omega), k4 id (by omega)]⟩
end
end Go.Proofs.YtfnkpedipicjnaaDoor
