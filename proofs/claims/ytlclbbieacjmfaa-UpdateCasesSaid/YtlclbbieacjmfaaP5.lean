/- Texts of the proof: UpdU1, UpdS2, UpdU2. -/
import Derived.Test.YtlclbbieacjmfaaP0
import Derived.Test.YtlclbbieacjmfaaP1
import Derived.Test.YtlclbbieacjmfaaP2
import Derived.Test.YtlclbbieacjmfaaP3
import Derived.Test.YtlclbbieacjmfaaP4
set_option linter.all false
set_option maxRecDepth 100000
namespace Go.Proofs.Ytlclbbieacjmfaa
open Go.AM
def storeL (t : List Int) (o : Int) (single : Bool) (P R : Prop) : Prop := if t = [] then False else if o ∉ t then P else if t.length > 1 ∨ single = false then P ∨ R else R
section
variable {CT : Nat → Option CFun}
theorem of_nil (h : TB CT) (H : Heap) : ∃ H', callW CT (.fn k_bits_Of [] []) [.s (.slice none 0 0)] 0 H = some (.ref (H.length + 1) 0 0, H') ∧ SetP H' (H.length + 1) H.length noP ∧ KeepD H.length [] H H' ∧ H'.length = H.length + 2 := by
  obtain ⟨H', h1, h2, h3, h4⟩ := of_P h 0 (H := H) (v := nilS) (l := []) (Rd.nil _) trivial (by decide) (fun x hx => by cases hx) (Nat.zero_le _)
  exact ⟨H', h1, h2, h3.d [], h4⟩
theorem store_nil (h : TC CT) (hS : CT k_update_Store = some (.code s_update_Store)) {H : Heap} (pv rv : V) (o : Int) (single : Bool) :
    ∃ i' j' H', callW CT (.fn k_update_Store [] []) [pv, rv, .s (.pointer none), .s (.int .i64 o), .s (.bool single)] 0 H = some (.ref i' 0 0, H') ∧ SetP H' i' j' noP ∧ KeepD H.length [] H H' ∧ H.length ≤ i' ∧ H.length ≤ j' := by
  obtain ⟨A1, e1, s1, k1, l1⟩ := of_nil h.toTB H
  have hl := fun base => len_nil h.len base A1
  rw [show (((0 : Nat) : Nat) : Int) = 0 from rfl] at hl
  refine ⟨_, _, A1, callW_fn (c := s_update_Store) hS (by simp [s_update_Store]) ?_, s1, k1, by omega, by omega⟩
  simp only [s_update_Store, a_update_Store, am0,am1,am2,am3,am4,am5,am6,am7,bl,i64,reduceIte,reduceCtorEq,Nat.reduceEqDiff,Nat.reduceLT,Nat.reduceLeDiff,Nat.reduceBEq,Nat.reduceAdd,fillA,splice,Nat.reduceMul,al0,al1,al2,al3,al4,al5,al6,al7,al8,al9,al10,al11,al12,al13,al14,al15,al16,al17,al18,al19,al20,al21,al22,al23,al24,al25,al26,al27,al28,al29,al30,al31,al32,al33,al34,amY, e1, hl]
  done
theorem store_P (h : TC CT) (hS : CT k_update_Store = some (.code s_update_Store)) {H : Heap} {i j : Nat} {p : WS} (sp : SetP H i j p) (cp : cnt p ≤ 2 ^ 40) {i2 j2 : Nat} {r : WS} (sr : SetP H i2 j2 r) (cr : cnt r ≤ 2 ^ 40) {i3 j3 : Nat} {t : WS} (st : SetP H i3 j3 t) (ct : cnt t ≤ 2 ^ 40) (o : Int) (ho : o < 2 ^ 63) (single : Bool) :
    ∃ i' j' q H', callW CT (.fn k_update_Store [] []) [.ref i 0 0, .ref i2 0 0, .ref i3 0 0, .s (.int .i64 o), .s (.bool single)] 0 H = some (.ref i' 0 0, H') ∧ SetP H' i' j' q ∧ KeepD H.length [] H H' ∧ H.length ≤ i' ∧ H.length ≤ j' ∧ cnt q ≤ cnt p + cnt r ∧ ∀ x, x ∈ el q ↔ storeL (el t) o single (x ∈ el p) (x ∈ el r) := by
  have dp := SetW.lt sp
  have dr := SetW.lt sr
  have dt := SetW.lt st
  obtain ⟨A1, e1, sq, k1, l1⟩ := of_nil h.toTB H
  have cq : cnt noP ≤ 0 := Nat.le_refl _
  have sp := k1.s sp
  have sr := k1.s sr
  have st := k1.s st
  have hlen := fun base => len_fun h.len base st
  have hhas := fun base => has_P h.toTB base st o ho
  have hel : (el t).length = cnt t := el_len t
  by_cases h0 : cnt t = 0
  · have hz : ((cnt t : Int) == 0) = true := by rw [h0]; rfl
    have ht : el t = [] := List.eq_nil_of_length_eq_zero (by omega)
    refine ⟨_, _, _, A1, callW_fn (c := s_update_Store) hS (by simp [s_update_Store]) ?_, sq, k1, by omega, by omega, by omega, fun x => ?_⟩
    · simp only [s_update_Store, a_update_Store, am0,am1,am2,am3,am4,am5,am6,am7,bl,i64,reduceIte,reduceCtorEq,Nat.reduceEqDiff,Nat.reduceLT,Nat.reduceLeDiff,Nat.reduceBEq,Nat.reduceAdd,fillA,splice,Nat.reduceMul,al0,al1,al2,al3,al4,al5,al6,al7,al8,al9,al10,al11,al12,al13,al14,al15,al16,al17,al18,al19,al20,al21,al22,al23,al24,al25,al26,al27,al28,al29,al30,al31,al32,al33,al34,amY, e1, hlen, hz]
      done
    · rw [noP_el, storeL, if_pos ht]; simp
  have hz : ((cnt t : Int) == 0) = false := by
    have : ¬ (cnt t : Int) = 0 := by omega
    simpa using this
  have ht : ¬ el t = [] := by intro e; rw [e] at hel; simp at hel; omega
  cases hq : hasF t.2 o with
  | false =>
    have hm : o ∉ el t := fun hm => by rw [(mem_el st.wd).1 hm] at hq; cases hq
    rw [hq] at hhas
    have mA2 := cnt_uniA sq.wd sp.wd
    obtain ⟨A2, eA2, nq, kA2⟩ := union_P h.toTB 0 sq (Nat.zero_le _) (Nat.zero_le _) sp (.inr ⟨by omega, by omega, by omega, by omega⟩) (by omega) h.union
    have sp := kA2.s sp ⟨by omega, by omega, by omega, by omega⟩
    have sr := kA2.s sr ⟨by omega, by omega, by omega, by omega⟩
    have st := kA2.s st ⟨by omega, by omega, by omega, by omega⟩
    have sq := nq
    clear nq
    have cq := mA2
    have lA2 := kA2.1
    refine ⟨_, _, _, A2, callW_fn (c := s_update_Store) hS (by simp [s_update_Store]) ?_, sq, ⟨by omega, fun id h1 _ => by rw [kA2.2 id (by omega) (by omega) (by omega), k1.2 id h1 (by simp)]⟩, by omega, by omega, by omega, fun x => ?_⟩
    · simp only [s_update_Store, a_update_Store, am0,am1,am2,am3,am4,am5,am6,am7,bl,i64,reduceIte,reduceCtorEq,Nat.reduceEqDiff,Nat.reduceLT,Nat.reduceLeDiff,Nat.reduceBEq,Nat.reduceAdd,fillA,splice,Nat.reduceMul,al0,al1,al2,al3,al4,al5,al6,al7,al8,al9,al10,al11,al12,al13,al14,al15,al16,al17,al18,al19,al20,al21,al22,al23,al24,al25,al26,al27,al28,al29,al30,al31,al32,al33,al34,amY, e1, hlen, hhas, hz, eA2]
      done
    · rw [mem_uniA noP_wd sp.wd, noP_el, storeL, if_neg ht, if_pos hm]; simp
  | true =>
    have hm : ¬ o ∉ el t := fun hm => hm ((mem_el st.wd).2 hq)
    rw [hq] at hhas
    by_cases h1 : cnt t > 1 ∨ single = false
    · have h1' : (bif decide ((cnt t : Int) > 1) then true else !single) = true := by
        rcases h1 with h1 | h1
        · have : decide ((cnt t : Int) > 1) = true := by simp; omega
          rw [this]; rfl
        · rw [h1]; simp
      have mA2 := cnt_uniA sq.wd sp.wd
      obtain ⟨A2, eA2, nq, kA2⟩ := union_P h.toTB 0 sq (Nat.zero_le _) (Nat.zero_le _) sp (.inr ⟨by omega, by omega, by omega, by omega⟩) (by omega) h.union
      have sp := kA2.s sp ⟨by omega, by omega, by omega, by omega⟩
      have sr := kA2.s sr ⟨by omega, by omega, by omega, by omega⟩
      have st := kA2.s st ⟨by omega, by omega, by omega, by omega⟩
      have sq := nq
      clear nq
      have cq := mA2
      have lA2 := kA2.1
      have mA3 := cnt_uniA sq.wd sr.wd
      obtain ⟨A3, eA3, nq, kA3⟩ := union_P h.toTB 0 sq (Nat.zero_le _) (Nat.zero_le _) sr (.inr ⟨by omega, by omega, by omega, by omega⟩) (by omega) h.union
      have sp := kA3.s sp ⟨by omega, by omega, by omega, by omega⟩
      have sr := kA3.s sr ⟨by omega, by omega, by omega, by omega⟩
      have st := kA3.s st ⟨by omega, by omega, by omega, by omega⟩
      have sq := nq
      clear nq
      have cq := mA3
      have lA3 := kA3.1
      refine ⟨_, _, _, A3, callW_fn (c := s_update_Store) hS (by simp [s_update_Store]) ?_, sq, ⟨by omega, fun id h1 _ => by rw [kA3.2 id (by omega) (by omega) (by omega), kA2.2 id (by omega) (by omega) (by omega), k1.2 id h1 (by simp)]⟩, by omega, by omega, by omega, fun x => ?_⟩
      · rcases h1 with h1 | h1
        · have hg : decide ((cnt t : Int) > 1) = true := by simp; omega
          simp only [s_update_Store, a_update_Store, am0,am1,am2,am3,am4,am5,am6,am7,bl,i64,reduceIte,reduceCtorEq,Nat.reduceEqDiff,Nat.reduceLT,Nat.reduceLeDiff,Nat.reduceBEq,Nat.reduceAdd,fillA,splice,Nat.reduceMul,al0,al1,al2,al3,al4,al5,al6,al7,al8,al9,al10,al11,al12,al13,al14,al15,al16,al17,al18,al19,al20,al21,al22,al23,al24,al25,al26,al27,al28,al29,al30,al31,al32,al33,al34,amY, e1, hlen, hhas, hz, hg, eA2, eA3]
          done
        · subst h1
          cases hg : decide ((cnt t : Int) > 1) <;> simp only [s_update_Store, a_update_Store, am0,am1,am2,am3,am4,am5,am6,am7,bl,i64,reduceIte,reduceCtorEq,Nat.reduceEqDiff,Nat.reduceLT,Nat.reduceLeDiff,Nat.reduceBEq,Nat.reduceAdd,fillA,splice,Nat.reduceMul,al0,al1,al2,al3,al4,al5,al6,al7,al8,al9,al10,al11,al12,al13,al14,al15,al16,al17,al18,al19,al20,al21,al22,al23,al24,al25,al26,al27,al28,al29,al30,al31,al32,al33,al34,amY, e1, hlen, hhas, hz, hg, eA2, eA3]
      · rw [mem_uniA (uniA_wd noP_wd sp.wd) sr.wd, mem_uniA noP_wd sp.wd, noP_el, storeL, if_neg ht, if_neg hm, if_pos (by rw [hel]; exact h1)]; simp
    · have hg : decide ((cnt t : Int) > 1) = false := by simp; omega
      have hs : single = true := by cases single <;> simp_all
      subst hs
      have mA2 := cnt_uniA sq.wd sr.wd
      obtain ⟨A2, eA2, nq, kA2⟩ := union_P h.toTB 0 sq (Nat.zero_le _) (Nat.zero_le _) sr (.inr ⟨by omega, by omega, by omega, by omega⟩) (by omega) h.union
      have sp := kA2.s sp ⟨by omega, by omega, by omega, by omega⟩
      have sr := kA2.s sr ⟨by omega, by omega, by omega, by omega⟩
      have st := kA2.s st ⟨by omega, by omega, by omega, by omega⟩
      have sq := nq
      clear nq
      have cq := mA2
      have lA2 := kA2.1
      refine ⟨_, _, _, A2, callW_fn (c := s_update_Store) hS (by simp [s_update_Store]) ?_, sq, ⟨by omega, fun id h1 _ => by rw [kA2.2 id (by omega) (by omega) (by omega), k1.2 id h1 (by simp)]⟩, by omega, by omega, by omega, fun x => ?_⟩
      · simp only [s_update_Store, a_update_Store, am0,am1,am2,am3,am4,am5,am6,am7,bl,i64,reduceIte,reduceCtorEq,Nat.reduceEqDiff,Nat.reduceLT,Nat.reduceLeDiff,Nat.reduceBEq,Nat.reduceAdd,fillA,splice,Nat.reduceMul,al0,al1,al2,al3,al4,al5,al6,al7,al8,al9,al10,al11,al12,al13,al14,al15,al16,al17,al18,al19,al20,al21,al22,al23,al24,al25,al26,al27,al28,al29,al30,al31,al32,al33,al34,amY, e1, hlen, hhas, hz, hg, eA2]
        done
      · rw [mem_uniA noP_wd sr.wd, noP_el, storeL, if_neg ht, if_neg hm, if_neg (by rw [hel]; exact h1)]; simp
end
end Go.Proofs.Ytlclbbieacjmfaa
set_option maxRecDepth 100000
namespace Go.Proofs.Ytlclbbieacjmfaa
open Go.AM
abbrev k_gnomonlaw25_UpdateCases : Nat := 5
def s_gnomonlaw25_UpdateCases_r0_k : List Nat := [4, 5, 6, 7, 8, 9, 10, 11, 12, 13, 14, 15, 16, 17, 18, 19, 20, 21, 22, 23, 24, 25, 26, 27, 28, 29, 30, 31, 32, 33, 34, 35, 36, 37, 38, 39, 40, 41, 42, 43, 44, 45, 46, 47, 48, 49, 50, 51, 52, 53, 54, 55, 56, 57, 58, 59, 60, 61, 62, 63, 64, 65, 66, 67, 68, 69, 70, 71, 72, 73, 74, 75, 76, 77, 78, 79, 80, 81, 82, 83, 84, 85, 86, 87, 88, 89, 90, 91, 92, 93, 94, 95, 96, 97, 98, 99, 100, 101, 102, 103, 104, 105, 106, 107, 108, 109, 110, 111, 112, 113, 114, 115, 116, 117, 118, 119, 120, 121, 122, 123, 124, 125, 126, 127, 128, 129, 130]
theorem s_gnomonlaw25_UpdateCases_r0_kT : killV s_gnomonlaw25_UpdateCases_r0_k (startV 131 [] 4) = [] := by kernel_rfl
theorem s_gnomonlaw25_UpdateCases_r0_kA0 : s_gnomonlaw25_UpdateCases_r0_k.contains 0 = false := by kernel_rfl
theorem s_gnomonlaw25_UpdateCases_r0_kA1 : s_gnomonlaw25_UpdateCases_r0_k.contains 1 = false := by kernel_rfl
theorem s_gnomonlaw25_UpdateCases_r0_kA2 : s_gnomonlaw25_UpdateCases_r0_k.contains 2 = false := by kernel_rfl
theorem s_gnomonlaw25_UpdateCases_r0_kA3 : s_gnomonlaw25_UpdateCases_r0_k.contains 3 = false := by kernel_rfl
def s_gnomonlaw25_UpdateCases_r0 : List AOper := [
  ⟨some 8, (.move (.c (.s (.bool false)))), none⟩]
theorem s_gnomonlaw25_UpdateCases_r0_tale (fr : List V) (H : Heap) : evTale (symAll s_gnomonlaw25_UpdateCases_r0 s_gnomonlaw25_UpdateCases_r0_k []) s_gnomonlaw25_UpdateCases_r0_k fr H = evTale (some (9, [], [])) s_gnomonlaw25_UpdateCases_r0_k fr H := tale_row (items := [.cc (.s (.bool false))]) (by kernel_rfl) fr H
def s_gnomonlaw25_UpdateCases_r1 : List AOper := [
  ⟨some 16, (.move (.t 0)), none⟩,
  ⟨some 17, (.lenS .s (.t 16)), none⟩,
  ⟨some 18, (.bin .gtr (.t 17) (.c (.s (.int .i64 300)))), none⟩,
  ⟨some 19, (.move (.t 18)), none⟩,
  ⟨some 20, (.move (.t 1)), some (19, false)⟩,
  ⟨some 21, (.lenS .s (.t 20)), some (19, false)⟩,
  ⟨some 22, (.bin .gtr (.t 21) (.c (.s (.int .i64 300)))), some (19, false)⟩,
  ⟨some 23, (.pick (.t 19) (.c (.s (.bool true))) (.t 22)), none⟩,
  ⟨some 24, (.move (.t 23)), none⟩,
  ⟨some 25, (.move (.t 2)), some (24, false)⟩,
  ⟨some 26, (.lenS .s (.t 25)), some (24, false)⟩,
  ⟨some 27, (.bin .gtr (.t 26) (.c (.s (.int .i64 300)))), some (24, false)⟩,
  ⟨some 28, (.pick (.t 24) (.c (.s (.bool true))) (.t 27)), none⟩]
theorem s_gnomonlaw25_UpdateCases_r1_tale (fr : List V) (H : Heap) : evTale (symAll s_gnomonlaw25_UpdateCases_r1 [16, 17, 18, 19, 20, 21, 22, 23, 24, 25, 26, 27] [28]) [16, 17, 18, 19, 20, 21, 22, 23, 24, 25, 26, 27] fr H = evTale (some (29, [], [(28, (.pick (.pick (.op (.bin .gtr (.t 0) (.c (.s (.int .i64 300)))) [(.op (.lenS .s (.t 0)) [(.t 0)]), (.c (.s (.int .i64 300)))]) (.c (.s (.bool true))) (.op (.bin .gtr (.t 0) (.c (.s (.int .i64 300)))) [(.op (.lenS .s (.t 0)) [(.t 1)]), (.c (.s (.int .i64 300)))])) (.c (.s (.bool true))) (.op (.bin .gtr (.t 0) (.c (.s (.int .i64 300)))) [(.op (.lenS .s (.t 0)) [(.t 2)]), (.c (.s (.int .i64 300)))])))])) [16, 17, 18, 19, 20, 21, 22, 23, 24, 25, 26, 27] fr H := tale_row (items := [.tt 0, .sub 0 [0, 0, 0] [], .sub 0 [0, 0] [], .sub 0 [0, 0] [], .sub 0 [0, 2, 0, 0] [19], .sub 0 [0, 2, 0] [19], .sub 0 [0, 2] [19], .sub 0 [0] [], .sub 0 [0] [], .sub 0 [2, 0, 0] [24], .sub 0 [2, 0] [24], .sub 0 [2] [24], .sub 0 [] []]) (by kernel_rfl) fr H
def s_gnomonlaw25_UpdateCases_r2t1 : List AOper := [⟨some 8, (.move (.t 29)), none⟩]
def s_gnomonlaw25_UpdateCases_r2p0 : List AOper := [⟨some 29, (.call (.c (.fn 7 [] [])) []), none⟩]
def s_gnomonlaw25_UpdateCases_r2 : List AOper := s_gnomonlaw25_UpdateCases_r2p0 ++ s_gnomonlaw25_UpdateCases_r2t1
theorem s_gnomonlaw25_UpdateCases_r2_x (call : CallF) (it : IterF) (base : Nat) (f : List V) (H : Heap) : evC call it base (.region s_gnomonlaw25_UpdateCases_r2 [] [0, 1, 2, 3, 28, 29]) f H = thenC call it base (.region s_gnomonlaw25_UpdateCases_r2t1 [] [0, 1, 2, 3, 28, 29]) (opsC [] s_gnomonlaw25_UpdateCases_r2p0 [0, 1, 2, 3, 28] (evOps call base [⟨some 29, (.call (.c (.fn 7 [] [])) []), none⟩] f H)) := (row_op call it base s_gnomonlaw25_UpdateCases_r2p0 s_gnomonlaw25_UpdateCases_r2t1 (kc := [0, 1, 2, 3, 28]) (by kernel_rfl) f H).trans (by rw [row_ops]; rfl)
theorem s_gnomonlaw25_UpdateCases_r2t1_tale (fr : List V) (H : Heap) : evTale (symAll s_gnomonlaw25_UpdateCases_r2t1 [0, 1, 2, 3, 28, 29] [8]) [0, 1, 2, 3, 28, 29] fr H = evTale (some (9, [], [(8, (.t 29))])) [0, 1, 2, 3, 28, 29] fr H := tale_row (items := [.tt 29]) (by kernel_rfl) fr H
theorem s_gnomonlaw25_UpdateCases_r2t1_x (call : CallF) (it : IterF) (base : Nat) (f : List V) (H : Heap) : evC call it base (.region s_gnomonlaw25_UpdateCases_r2t1 [] [0, 1, 2, 3, 28, 29]) f H = segL H (evTale (symAll s_gnomonlaw25_UpdateCases_r2t1 [0, 1, 2, 3, 28, 29] [8]) [0, 1, 2, 3, 28, 29] f H) (origRow call it base s_gnomonlaw25_UpdateCases_r2t1 [0, 1, 2, 3, 28, 29] f H) := row_last call it base _ f H
def s_gnomonlaw25_UpdateCases_r3t4 : List AOper := [⟨some 9, (.move (.t 31)), none⟩, ⟨some 10, (.move (.t 33)), none⟩]
def s_gnomonlaw25_UpdateCases_r3p3 : List AOper := [⟨some 33, (.call (.c (.fn 8 [] [])) [(.t 32)]), none⟩]
def s_gnomonlaw25_UpdateCases_r3t3 : List AOper := s_gnomonlaw25_UpdateCases_r3p3 ++ s_gnomonlaw25_UpdateCases_r3t4
def s_gnomonlaw25_UpdateCases_r3p2 : List AOper := [⟨some 32, (.move (.t 1)), none⟩]
def s_gnomonlaw25_UpdateCases_r3t2 : List AOper := s_gnomonlaw25_UpdateCases_r3p2 ++ s_gnomonlaw25_UpdateCases_r3t3
def s_gnomonlaw25_UpdateCases_r3p1 : List AOper := [⟨some 31, (.call (.c (.fn 8 [] [])) [(.t 30)]), none⟩]
def s_gnomonlaw25_UpdateCases_r3t1 : List AOper := s_gnomonlaw25_UpdateCases_r3p1 ++ s_gnomonlaw25_UpdateCases_r3t2
def s_gnomonlaw25_UpdateCases_r3p0 : List AOper := [⟨some 30, (.move (.t 0)), none⟩]
def s_gnomonlaw25_UpdateCases_r3 : List AOper := s_gnomonlaw25_UpdateCases_r3p0 ++ s_gnomonlaw25_UpdateCases_r3t1
theorem s_gnomonlaw25_UpdateCases_r3p0_tale (fr : List V) (H : Heap) : evTale (symAll s_gnomonlaw25_UpdateCases_r3p0 [0, 28] [30]) [0, 28] fr H = evTale (some (31, [], [(30, (.t 0))])) [0, 28] fr H := tale_row (items := [.tt 0]) (by kernel_rfl) fr H
theorem s_gnomonlaw25_UpdateCases_r3_x (call : CallF) (it : IterF) (base : Nat) (f : List V) (H : Heap) : evC call it base (.region s_gnomonlaw25_UpdateCases_r3 [] [0, 1, 28, 30, 31, 32, 33]) f H = segC call it base s_gnomonlaw25_UpdateCases_r3t1 [0, 1, 28, 30, 31, 32, 33] H (evTale (symAll s_gnomonlaw25_UpdateCases_r3p0 [0, 28] [30]) [0, 28] f H) (origRow call it base s_gnomonlaw25_UpdateCases_r3 [0, 1, 28, 30, 31, 32, 33] f H) := row_seg call it base s_gnomonlaw25_UpdateCases_r3p0 s_gnomonlaw25_UpdateCases_r3t1 (by kernel_rfl) f H
theorem s_gnomonlaw25_UpdateCases_r3t1_x (call : CallF) (it : IterF) (base : Nat) (f : List V) (H : Heap) : evC call it base (.region s_gnomonlaw25_UpdateCases_r3t1 [] [0, 1, 28, 30, 31, 32, 33]) f H = thenC call it base (.region s_gnomonlaw25_UpdateCases_r3t2 [] [0, 1, 28, 30, 31, 32, 33]) (opsC [] s_gnomonlaw25_UpdateCases_r3p1 [30] (evOps call base [⟨some 31, (.call (.c (.fn 8 [] [])) [(.t 30)]), none⟩] f H)) := (row_op call it base s_gnomonlaw25_UpdateCases_r3p1 s_gnomonlaw25_UpdateCases_r3t2 (kc := [30]) (by kernel_rfl) f H).trans (by rw [row_ops]; rfl)
theorem s_gnomonlaw25_UpdateCases_r3p2_tale (fr : List V) (H : Heap) : evTale (symAll s_gnomonlaw25_UpdateCases_r3p2 [1] [32]) [1] fr H = evTale (some (33, [], [(32, (.t 1))])) [1] fr H := tale_row (items := [.tt 1]) (by kernel_rfl) fr H
theorem s_gnomonlaw25_UpdateCases_r3t2_x (call : CallF) (it : IterF) (base : Nat) (f : List V) (H : Heap) : evC call it base (.region s_gnomonlaw25_UpdateCases_r3t2 [] [0, 1, 28, 30, 31, 32, 33]) f H = segC call it base s_gnomonlaw25_UpdateCases_r3t3 [0, 1, 28, 30, 31, 32, 33] H (evTale (symAll s_gnomonlaw25_UpdateCases_r3p2 [1] [32]) [1] f H) (origRow call it base s_gnomonlaw25_UpdateCases_r3t2 [0, 1, 28, 30, 31, 32, 33] f H) := row_seg call it base s_gnomonlaw25_UpdateCases_r3p2 s_gnomonlaw25_UpdateCases_r3t3 (by kernel_rfl) f H
theorem s_gnomonlaw25_UpdateCases_r3t3_x (call : CallF) (it : IterF) (base : Nat) (f : List V) (H : Heap) : evC call it base (.region s_gnomonlaw25_UpdateCases_r3t3 [] [0, 1, 28, 30, 31, 32, 33]) f H = thenC call it base (.region s_gnomonlaw25_UpdateCases_r3t4 [] [0, 1, 28, 30, 31, 32, 33]) (opsC [] s_gnomonlaw25_UpdateCases_r3p3 [32] (evOps call base [⟨some 33, (.call (.c (.fn 8 [] [])) [(.t 32)]), none⟩] f H)) := (row_op call it base s_gnomonlaw25_UpdateCases_r3p3 s_gnomonlaw25_UpdateCases_r3t4 (kc := [32]) (by kernel_rfl) f H).trans (by rw [row_ops]; rfl)
theorem s_gnomonlaw25_UpdateCases_r3t4_tale (fr : List V) (H : Heap) : evTale (symAll s_gnomonlaw25_UpdateCases_r3t4 [0, 1, 28, 30, 31, 32, 33] [9, 10]) [0, 1, 28, 30, 31, 32, 33] fr H = evTale (some (11, [], [(9, (.t 31)), (10, (.t 33))])) [0, 1, 28, 30, 31, 32, 33] fr H := tale_row (items := [.tt 31, .tt 33]) (by kernel_rfl) fr H
theorem s_gnomonlaw25_UpdateCases_r3t4_x (call : CallF) (it : IterF) (base : Nat) (f : List V) (H : Heap) : evC call it base (.region s_gnomonlaw25_UpdateCases_r3t4 [] [0, 1, 28, 30, 31, 32, 33]) f H = segL H (evTale (symAll s_gnomonlaw25_UpdateCases_r3t4 [0, 1, 28, 30, 31, 32, 33] [9, 10]) [0, 1, 28, 30, 31, 32, 33] f H) (origRow call it base s_gnomonlaw25_UpdateCases_r3t4 [0, 1, 28, 30, 31, 32, 33] f H) := row_last call it base _ f H
def s_gnomonlaw25_UpdateCases_r4t2 : List AOper := [⟨some 11, (.move (.t 35)), none⟩]
def s_gnomonlaw25_UpdateCases_r4p1 : List AOper := [⟨some 35, (.call (.c (.fn 12 [] [])) [(.t 34)]), none⟩]
def s_gnomonlaw25_UpdateCases_r4t1 : List AOper := s_gnomonlaw25_UpdateCases_r4p1 ++ s_gnomonlaw25_UpdateCases_r4t2
def s_gnomonlaw25_UpdateCases_r4p0 : List AOper := [⟨some 34, (.move (.t 9)), none⟩]
def s_gnomonlaw25_UpdateCases_r4 : List AOper := s_gnomonlaw25_UpdateCases_r4p0 ++ s_gnomonlaw25_UpdateCases_r4t1
theorem s_gnomonlaw25_UpdateCases_r4p0_tale (fr : List V) (H : Heap) : evTale (symAll s_gnomonlaw25_UpdateCases_r4p0 [] [34]) [] fr H = evTale (some (35, [], [(34, (.t 9))])) [] fr H := tale_row (items := [.tt 9]) (by kernel_rfl) fr H
theorem s_gnomonlaw25_UpdateCases_r4_x (call : CallF) (it : IterF) (base : Nat) (f : List V) (H : Heap) : evC call it base (.region s_gnomonlaw25_UpdateCases_r4 [] [34, 35]) f H = segC call it base s_gnomonlaw25_UpdateCases_r4t1 [34, 35] H (evTale (symAll s_gnomonlaw25_UpdateCases_r4p0 [] [34]) [] f H) (origRow call it base s_gnomonlaw25_UpdateCases_r4 [34, 35] f H) := row_seg call it base s_gnomonlaw25_UpdateCases_r4p0 s_gnomonlaw25_UpdateCases_r4t1 (by kernel_rfl) f H
theorem s_gnomonlaw25_UpdateCases_r4t1_x (call : CallF) (it : IterF) (base : Nat) (f : List V) (H : Heap) : evC call it base (.region s_gnomonlaw25_UpdateCases_r4t1 [] [34, 35]) f H = thenC call it base (.region s_gnomonlaw25_UpdateCases_r4t2 [] [34, 35]) (opsC [] s_gnomonlaw25_UpdateCases_r4p1 [34] (evOps call base [⟨some 35, (.call (.c (.fn 12 [] [])) [(.t 34)]), none⟩] f H)) := (row_op call it base s_gnomonlaw25_UpdateCases_r4p1 s_gnomonlaw25_UpdateCases_r4t2 (kc := [34]) (by kernel_rfl) f H).trans (by rw [row_ops]; rfl)
theorem s_gnomonlaw25_UpdateCases_r4t2_tale (fr : List V) (H : Heap) : evTale (symAll s_gnomonlaw25_UpdateCases_r4t2 [34, 35] [11]) [34, 35] fr H = evTale (some (12, [], [(11, (.t 35))])) [34, 35] fr H := tale_row (items := [.tt 35]) (by kernel_rfl) fr H
theorem s_gnomonlaw25_UpdateCases_r4t2_x (call : CallF) (it : IterF) (base : Nat) (f : List V) (H : Heap) : evC call it base (.region s_gnomonlaw25_UpdateCases_r4t2 [] [34, 35]) f H = segL H (evTale (symAll s_gnomonlaw25_UpdateCases_r4t2 [34, 35] [11]) [34, 35] f H) (origRow call it base s_gnomonlaw25_UpdateCases_r4t2 [34, 35] f H) := row_last call it base _ f H
def s_gnomonlaw25_UpdateCases_r5t1 : List AOper := [⟨some 38, (.call (.c (.fn 13 [] [])) [(.t 36), (.t 37)]), none⟩]
def s_gnomonlaw25_UpdateCases_r5p0 : List AOper := [⟨some 36, (.move (.t 11)), none⟩, ⟨some 37, (.move (.t 10)), none⟩]
def s_gnomonlaw25_UpdateCases_r5 : List AOper := s_gnomonlaw25_UpdateCases_r5p0 ++ s_gnomonlaw25_UpdateCases_r5t1
theorem s_gnomonlaw25_UpdateCases_r5p0_tale (fr : List V) (H : Heap) : evTale (symAll s_gnomonlaw25_UpdateCases_r5p0 [] [36, 37]) [] fr H = evTale (some (38, [], [(36, (.t 11)), (37, (.t 10))])) [] fr H := tale_row (items := [.tt 11, .tt 10]) (by kernel_rfl) fr H
theorem s_gnomonlaw25_UpdateCases_r5_x (call : CallF) (it : IterF) (base : Nat) (f : List V) (H : Heap) : evC call it base (.region s_gnomonlaw25_UpdateCases_r5 [] [36, 37, 38]) f H = segC call it base s_gnomonlaw25_UpdateCases_r5t1 [36, 37, 38] H (evTale (symAll s_gnomonlaw25_UpdateCases_r5p0 [] [36, 37]) [] f H) (origRow call it base s_gnomonlaw25_UpdateCases_r5 [36, 37, 38] f H) := row_seg call it base s_gnomonlaw25_UpdateCases_r5p0 s_gnomonlaw25_UpdateCases_r5t1 (by kernel_rfl) f H
theorem s_gnomonlaw25_UpdateCases_r5t1_x (call : CallF) (it : IterF) (base : Nat) (f : List V) (H : Heap) : evC call it base (.region s_gnomonlaw25_UpdateCases_r5t1 [] [36, 37, 38]) f H = opsC [] s_gnomonlaw25_UpdateCases_r5t1 [36, 37, 38] (evOps call base [⟨some 38, (.call (.c (.fn 13 [] [])) [(.t 36), (.t 37)]), none⟩] f H) := row_ops call it base _ _ _ f H
def s_gnomonlaw25_UpdateCases_r6t2 : List AOper := [⟨some 12, (.move (.t 40)), none⟩]
def s_gnomonlaw25_UpdateCases_r6p1 : List AOper := [⟨some 40, (.call (.c (.fn 8 [] [])) [(.t 39)]), none⟩]
def s_gnomonlaw25_UpdateCases_r6t1 : List AOper := s_gnomonlaw25_UpdateCases_r6p1 ++ s_gnomonlaw25_UpdateCases_r6t2
def s_gnomonlaw25_UpdateCases_r6p0 : List AOper := [⟨some 39, (.move (.t 2)), none⟩]
def s_gnomonlaw25_UpdateCases_r6 : List AOper := s_gnomonlaw25_UpdateCases_r6p0 ++ s_gnomonlaw25_UpdateCases_r6t1
theorem s_gnomonlaw25_UpdateCases_r6p0_tale (fr : List V) (H : Heap) : evTale (symAll s_gnomonlaw25_UpdateCases_r6p0 [2] [39]) [2] fr H = evTale (some (40, [], [(39, (.t 2))])) [2] fr H := tale_row (items := [.tt 2]) (by kernel_rfl) fr H
theorem s_gnomonlaw25_UpdateCases_r6_x (call : CallF) (it : IterF) (base : Nat) (f : List V) (H : Heap) : evC call it base (.region s_gnomonlaw25_UpdateCases_r6 [] [2, 39, 40]) f H = segC call it base s_gnomonlaw25_UpdateCases_r6t1 [2, 39, 40] H (evTale (symAll s_gnomonlaw25_UpdateCases_r6p0 [2] [39]) [2] f H) (origRow call it base s_gnomonlaw25_UpdateCases_r6 [2, 39, 40] f H) := row_seg call it base s_gnomonlaw25_UpdateCases_r6p0 s_gnomonlaw25_UpdateCases_r6t1 (by kernel_rfl) f H
theorem s_gnomonlaw25_UpdateCases_r6t1_x (call : CallF) (it : IterF) (base : Nat) (f : List V) (H : Heap) : evC call it base (.region s_gnomonlaw25_UpdateCases_r6t1 [] [2, 39, 40]) f H = thenC call it base (.region s_gnomonlaw25_UpdateCases_r6t2 [] [2, 39, 40]) (opsC [] s_gnomonlaw25_UpdateCases_r6p1 [39] (evOps call base [⟨some 40, (.call (.c (.fn 8 [] [])) [(.t 39)]), none⟩] f H)) := (row_op call it base s_gnomonlaw25_UpdateCases_r6p1 s_gnomonlaw25_UpdateCases_r6t2 (kc := [39]) (by kernel_rfl) f H).trans (by rw [row_ops]; rfl)
theorem s_gnomonlaw25_UpdateCases_r6t2_tale (fr : List V) (H : Heap) : evTale (symAll s_gnomonlaw25_UpdateCases_r6t2 [2, 39, 40] [12]) [2, 39, 40] fr H = evTale (some (13, [], [(12, (.t 40))])) [2, 39, 40] fr H := tale_row (items := [.tt 40]) (by kernel_rfl) fr H
theorem s_gnomonlaw25_UpdateCases_r6t2_x (call : CallF) (it : IterF) (base : Nat) (f : List V) (H : Heap) : evC call it base (.region s_gnomonlaw25_UpdateCases_r6t2 [] [2, 39, 40]) f H = segL H (evTale (symAll s_gnomonlaw25_UpdateCases_r6t2 [2, 39, 40] [12]) [2, 39, 40] f H) (origRow call it base s_gnomonlaw25_UpdateCases_r6t2 [2, 39, 40] f H) := row_last call it base _ f H
def s_gnomonlaw25_UpdateCases_r7t1 : List AOper := [⟨some 43, (.call (.c (.fn 17 [] [])) [(.t 41), (.t 42)]), none⟩]
def s_gnomonlaw25_UpdateCases_r7p0 : List AOper := [⟨some 41, (.move (.t 12)), none⟩, ⟨some 42, (.move (.t 3)), none⟩]
def s_gnomonlaw25_UpdateCases_r7 : List AOper := s_gnomonlaw25_UpdateCases_r7p0 ++ s_gnomonlaw25_UpdateCases_r7t1
theorem s_gnomonlaw25_UpdateCases_r7p0_tale (fr : List V) (H : Heap) : evTale (symAll s_gnomonlaw25_UpdateCases_r7p0 [] [41, 42]) [] fr H = evTale (some (43, [], [(41, (.t 12)), (42, (.t 3))])) [] fr H := tale_row (items := [.tt 12, .tt 3]) (by kernel_rfl) fr H
theorem s_gnomonlaw25_UpdateCases_r7_x (call : CallF) (it : IterF) (base : Nat) (f : List V) (H : Heap) : evC call it base (.region s_gnomonlaw25_UpdateCases_r7 [] [41, 42, 43]) f H = segC call it base s_gnomonlaw25_UpdateCases_r7t1 [41, 42, 43] H (evTale (symAll s_gnomonlaw25_UpdateCases_r7p0 [] [41, 42]) [] f H) (origRow call it base s_gnomonlaw25_UpdateCases_r7 [41, 42, 43] f H) := row_seg call it base s_gnomonlaw25_UpdateCases_r7p0 s_gnomonlaw25_UpdateCases_r7t1 (by kernel_rfl) f H
theorem s_gnomonlaw25_UpdateCases_r7t1_x (call : CallF) (it : IterF) (base : Nat) (f : List V) (H : Heap) : evC call it base (.region s_gnomonlaw25_UpdateCases_r7t1 [] [41, 42, 43]) f H = opsC [] s_gnomonlaw25_UpdateCases_r7t1 [41, 42, 43] (evOps call base [⟨some 43, (.call (.c (.fn 17 [] [])) [(.t 41), (.t 42)]), none⟩] f H) := row_ops call it base _ _ _ f H
def s_gnomonlaw25_UpdateCases_r8 : List AOper := [
  ⟨some 13, (.move (.c (.s (.int .i64 0)))), none⟩]
theorem s_gnomonlaw25_UpdateCases_r8_tale (fr : List V) (H : Heap) : evTale (symAll s_gnomonlaw25_UpdateCases_r8 [] [13]) [] fr H = evTale (some (14, [], [(13, (.c (.s (.int .i64 0))))])) [] fr H := tale_row (items := [.cc (.s (.int .i64 0))]) (by kernel_rfl) fr H
def s_gnomonlaw25_UpdateCases_r9 : List AOper := [
  ⟨some 44, (.move (.t 13)), none⟩,
  ⟨some 45, (.bin .lss (.t 44) (.c (.s (.int .i64 2)))), none⟩]
theorem s_gnomonlaw25_UpdateCases_r9_tale (fr : List V) (H : Heap) : evTale (symAll s_gnomonlaw25_UpdateCases_r9 [44] [45]) [44] fr H = evTale (some (46, [], [(45, (.op (.bin .lss (.t 0) (.c (.s (.int .i64 2)))) [(.t 13), (.c (.s (.int .i64 2)))]))])) [44] fr H := tale_row (items := [.tt 13, .sub 0 [] []]) (by kernel_rfl) fr H
def s_gnomonlaw25_UpdateCases_r10 : List AOper := [
  ⟨some 48, (.move (.t 13)), none⟩,
  ⟨some 49, (.bin .eql (.t 48) (.c (.s (.int .i64 1)))), none⟩,
  ⟨some 14, (.move (.t 49)), none⟩]
theorem s_gnomonlaw25_UpdateCases_r10_tale (fr : List V) (H : Heap) : evTale (symAll s_gnomonlaw25_UpdateCases_r10 [45, 48, 49] [14]) [45, 48, 49] fr H = evTale (some (50, [], [(14, (.op (.bin .eql (.t 0) (.c (.s (.int .i64 1)))) [(.t 13), (.c (.s (.int .i64 1)))]))])) [45, 48, 49] fr H := tale_row (items := [.tt 13, .sub 0 [] [], .sub 0 [] []]) (by kernel_rfl) fr H
def s_gnomonlaw25_UpdateCases_r11t12 : List AOper := [⟨some 65, (.bin .neq (.t 64) (.c (.s (.int .i64 0)))), some (58, false)⟩, ⟨some 66, (.pick (.t 58) (.c (.s (.bool true))) (.t 65)), none⟩]
def s_gnomonlaw25_UpdateCases_r11p11 : List AOper := [⟨some 64, (.call (.c (.fn 16 [] [])) [(.t 63)]), some (58, false)⟩]
def s_gnomonlaw25_UpdateCases_r11t11 : List AOper := s_gnomonlaw25_UpdateCases_r11p11 ++ s_gnomonlaw25_UpdateCases_r11t12
def s_gnomonlaw25_UpdateCases_r11p10 : List AOper := [⟨some 63, (.call (.c (.fn 9 [] [])) [(.t 59), (.t 60), (.c (.s (.pointer none))), (.t 61), (.t 62)]), some (58, false)⟩]
def s_gnomonlaw25_UpdateCases_r11t10 : List AOper := s_gnomonlaw25_UpdateCases_r11p10 ++ s_gnomonlaw25_UpdateCases_r11t11
def s_gnomonlaw25_UpdateCases_r11p9 : List AOper := [⟨some 62, (.move (.t 14)), some (58, false)⟩]
def s_gnomonlaw25_UpdateCases_r11t9 : List AOper := s_gnomonlaw25_UpdateCases_r11p9 ++ s_gnomonlaw25_UpdateCases_r11t10
def s_gnomonlaw25_UpdateCases_r11p8 : List AOper := [⟨some 61, (.move (.t 3)), some (58, false)⟩]
def s_gnomonlaw25_UpdateCases_r11t8 : List AOper := s_gnomonlaw25_UpdateCases_r11p8 ++ s_gnomonlaw25_UpdateCases_r11t9
def s_gnomonlaw25_UpdateCases_r11p7 : List AOper := [⟨some 60, (.move (.t 10)), some (58, false)⟩]
def s_gnomonlaw25_UpdateCases_r11t7 : List AOper := s_gnomonlaw25_UpdateCases_r11p7 ++ s_gnomonlaw25_UpdateCases_r11t8
def s_gnomonlaw25_UpdateCases_r11p6 : List AOper := [⟨some 59, (.move (.t 9)), some (58, false)⟩]
def s_gnomonlaw25_UpdateCases_r11t6 : List AOper := s_gnomonlaw25_UpdateCases_r11p6 ++ s_gnomonlaw25_UpdateCases_r11t7
def s_gnomonlaw25_UpdateCases_r11p5 : List AOper := [⟨some 57, (.bin .neq (.t 56) (.c (.s (.int .i64 0)))), none⟩, ⟨some 58, (.move (.t 57)), none⟩]
def s_gnomonlaw25_UpdateCases_r11t5 : List AOper := s_gnomonlaw25_UpdateCases_r11p5 ++ s_gnomonlaw25_UpdateCases_r11t6
def s_gnomonlaw25_UpdateCases_r11p4 : List AOper := [⟨some 56, (.call (.c (.fn 16 [] [])) [(.t 55)]), none⟩]
def s_gnomonlaw25_UpdateCases_r11t4 : List AOper := s_gnomonlaw25_UpdateCases_r11p4 ++ s_gnomonlaw25_UpdateCases_r11t5
def s_gnomonlaw25_UpdateCases_r11p3 : List AOper := [⟨some 55, (.call (.c (.fn 9 [] [])) [(.t 50), (.t 51), (.t 52), (.t 53), (.t 54)]), none⟩]
def s_gnomonlaw25_UpdateCases_r11t3 : List AOper := s_gnomonlaw25_UpdateCases_r11p3 ++ s_gnomonlaw25_UpdateCases_r11t4
def s_gnomonlaw25_UpdateCases_r11p2 : List AOper := [⟨some 53, (.move (.t 3)), none⟩, ⟨some 54, (.move (.t 14)), none⟩]
def s_gnomonlaw25_UpdateCases_r11t2 : List AOper := s_gnomonlaw25_UpdateCases_r11p2 ++ s_gnomonlaw25_UpdateCases_r11t3
def s_gnomonlaw25_UpdateCases_r11p1 : List AOper := [⟨some 52, (.call (.c (.fn 8 [] [])) [(.c (.s (.slice none 0 0)))]), none⟩]
def s_gnomonlaw25_UpdateCases_r11t1 : List AOper := s_gnomonlaw25_UpdateCases_r11p1 ++ s_gnomonlaw25_UpdateCases_r11t2
def s_gnomonlaw25_UpdateCases_r11p0 : List AOper := [⟨some 50, (.move (.t 9)), none⟩, ⟨some 51, (.move (.t 10)), none⟩]
def s_gnomonlaw25_UpdateCases_r11 : List AOper := s_gnomonlaw25_UpdateCases_r11p0 ++ s_gnomonlaw25_UpdateCases_r11t1
theorem s_gnomonlaw25_UpdateCases_r11p0_tale (fr : List V) (H : Heap) : evTale (symAll s_gnomonlaw25_UpdateCases_r11p0 [] [50, 51]) [] fr H = evTale (some (52, [], [(50, (.t 9)), (51, (.t 10))])) [] fr H := tale_row (items := [.tt 9, .tt 10]) (by kernel_rfl) fr H
theorem s_gnomonlaw25_UpdateCases_r11_x (call : CallF) (it : IterF) (base : Nat) (f : List V) (H : Heap) : evC call it base (.region s_gnomonlaw25_UpdateCases_r11 [] [50, 51, 52, 53, 54, 55, 56, 57, 58, 59, 60, 61, 62, 63, 64, 65]) f H = segC call it base s_gnomonlaw25_UpdateCases_r11t1 [50, 51, 52, 53, 54, 55, 56, 57, 58, 59, 60, 61, 62, 63, 64, 65] H (evTale (symAll s_gnomonlaw25_UpdateCases_r11p0 [] [50, 51]) [] f H) (origRow call it base s_gnomonlaw25_UpdateCases_r11 [50, 51, 52, 53, 54, 55, 56, 57, 58, 59, 60, 61, 62, 63, 64, 65] f H) := row_seg call it base s_gnomonlaw25_UpdateCases_r11p0 s_gnomonlaw25_UpdateCases_r11t1 (by kernel_rfl) f H
theorem s_gnomonlaw25_UpdateCases_r11t1_x (call : CallF) (it : IterF) (base : Nat) (f : List V) (H : Heap) : evC call it base (.region s_gnomonlaw25_UpdateCases_r11t1 [] [50, 51, 52, 53, 54, 55, 56, 57, 58, 59, 60, 61, 62, 63, 64, 65]) f H = thenC call it base (.region s_gnomonlaw25_UpdateCases_r11t2 [] [50, 51, 52, 53, 54, 55, 56, 57, 58, 59, 60, 61, 62, 63, 64, 65]) (opsC [] s_gnomonlaw25_UpdateCases_r11p1 [] (evOps call base [⟨some 52, (.call (.c (.fn 8 [] [])) [(.c (.s (.slice none 0 0)))]), none⟩] f H)) := (row_op call it base s_gnomonlaw25_UpdateCases_r11p1 s_gnomonlaw25_UpdateCases_r11t2 (kc := []) (by kernel_rfl) f H).trans (by rw [row_ops]; rfl)
theorem s_gnomonlaw25_UpdateCases_r11p2_tale (fr : List V) (H : Heap) : evTale (symAll s_gnomonlaw25_UpdateCases_r11p2 [] [53, 54]) [] fr H = evTale (some (55, [], [(53, (.t 3)), (54, (.t 14))])) [] fr H := tale_row (items := [.tt 3, .tt 14]) (by kernel_rfl) fr H
theorem s_gnomonlaw25_UpdateCases_r11t2_x (call : CallF) (it : IterF) (base : Nat) (f : List V) (H : Heap) : evC call it base (.region s_gnomonlaw25_UpdateCases_r11t2 [] [50, 51, 52, 53, 54, 55, 56, 57, 58, 59, 60, 61, 62, 63, 64, 65]) f H = segC call it base s_gnomonlaw25_UpdateCases_r11t3 [50, 51, 52, 53, 54, 55, 56, 57, 58, 59, 60, 61, 62, 63, 64, 65] H (evTale (symAll s_gnomonlaw25_UpdateCases_r11p2 [] [53, 54]) [] f H) (origRow call it base s_gnomonlaw25_UpdateCases_r11t2 [50, 51, 52, 53, 54, 55, 56, 57, 58, 59, 60, 61, 62, 63, 64, 65] f H) := row_seg call it base s_gnomonlaw25_UpdateCases_r11p2 s_gnomonlaw25_UpdateCases_r11t3 (by kernel_rfl) f H
theorem s_gnomonlaw25_UpdateCases_r11t3_x (call : CallF) (it : IterF) (base : Nat) (f : List V) (H : Heap) : evC call it base (.region s_gnomonlaw25_UpdateCases_r11t3 [] [50, 51, 52, 53, 54, 55, 56, 57, 58, 59, 60, 61, 62, 63, 64, 65]) f H = thenC call it base (.region s_gnomonlaw25_UpdateCases_r11t4 [] [50, 51, 52, 53, 54, 55, 56, 57, 58, 59, 60, 61, 62, 63, 64, 65]) (opsC [] s_gnomonlaw25_UpdateCases_r11p3 [50, 51, 52, 53, 54] (evOps call base [⟨some 55, (.call (.c (.fn 9 [] [])) [(.t 50), (.t 51), (.t 52), (.t 53), (.t 54)]), none⟩] f H)) := (row_op call it base s_gnomonlaw25_UpdateCases_r11p3 s_gnomonlaw25_UpdateCases_r11t4 (kc := [50, 51, 52, 53, 54]) (by kernel_rfl) f H).trans (by rw [row_ops]; rfl)
theorem s_gnomonlaw25_UpdateCases_r11t4_x (call : CallF) (it : IterF) (base : Nat) (f : List V) (H : Heap) : evC call it base (.region s_gnomonlaw25_UpdateCases_r11t4 [] [50, 51, 52, 53, 54, 55, 56, 57, 58, 59, 60, 61, 62, 63, 64, 65]) f H = thenC call it base (.region s_gnomonlaw25_UpdateCases_r11t5 [] [50, 51, 52, 53, 54, 55, 56, 57, 58, 59, 60, 61, 62, 63, 64, 65]) (opsC [] s_gnomonlaw25_UpdateCases_r11p4 [55] (evOps call base [⟨some 56, (.call (.c (.fn 16 [] [])) [(.t 55)]), none⟩] f H)) := (row_op call it base s_gnomonlaw25_UpdateCases_r11p4 s_gnomonlaw25_UpdateCases_r11t5 (kc := [55]) (by kernel_rfl) f H).trans (by rw [row_ops]; rfl)
theorem s_gnomonlaw25_UpdateCases_r11p5_tale (fr : List V) (H : Heap) : evTale (symAll s_gnomonlaw25_UpdateCases_r11p5 [56, 57] [58]) [56, 57] fr H = evTale (some (59, [], [(58, (.op (.bin .neq (.t 0) (.c (.s (.int .i64 0)))) [(.t 56), (.c (.s (.int .i64 0)))]))])) [56, 57] fr H := tale_row (items := [.sub 0 [] [], .sub 0 [] []]) (by kernel_rfl) fr H
theorem s_gnomonlaw25_UpdateCases_r11t5_x (call : CallF) (it : IterF) (base : Nat) (f : List V) (H : Heap) : evC call it base (.region s_gnomonlaw25_UpdateCases_r11t5 [] [50, 51, 52, 53, 54, 55, 56, 57, 58, 59, 60, 61, 62, 63, 64, 65]) f H = segC call it base s_gnomonlaw25_UpdateCases_r11t6 [50, 51, 52, 53, 54, 55, 56, 57, 58, 59, 60, 61, 62, 63, 64, 65] H (evTale (symAll s_gnomonlaw25_UpdateCases_r11p5 [56, 57] [58]) [56, 57] f H) (origRow call it base s_gnomonlaw25_UpdateCases_r11t5 [50, 51, 52, 53, 54, 55, 56, 57, 58, 59, 60, 61, 62, 63, 64, 65] f H) := row_seg call it base s_gnomonlaw25_UpdateCases_r11p5 s_gnomonlaw25_UpdateCases_r11t6 (by kernel_rfl) f H
theorem s_gnomonlaw25_UpdateCases_r11t6_x (call : CallF) (it : IterF) (base : Nat) (f : List V) (H : Heap) : evC call it base (.region s_gnomonlaw25_UpdateCases_r11t6 [] [50, 51, 52, 53, 54, 55, 56, 57, 58, 59, 60, 61, 62, 63, 64, 65]) f H = thenC call it base (.region s_gnomonlaw25_UpdateCases_r11t7 [] [50, 51, 52, 53, 54, 55, 56, 57, 58, 59, 60, 61, 62, 63, 64, 65]) (opsC [] s_gnomonlaw25_UpdateCases_r11p6 [] (evOps call base [⟨some 59, (.move (.t 9)), some (58, false)⟩] f H)) := (row_op call it base s_gnomonlaw25_UpdateCases_r11p6 s_gnomonlaw25_UpdateCases_r11t7 (kc := []) (by kernel_rfl) f H).trans (by rw [row_ops]; rfl)
theorem s_gnomonlaw25_UpdateCases_r11t7_x (call : CallF) (it : IterF) (base : Nat) (f : List V) (H : Heap) : evC call it base (.region s_gnomonlaw25_UpdateCases_r11t7 [] [50, 51, 52, 53, 54, 55, 56, 57, 58, 59, 60, 61, 62, 63, 64, 65]) f H = thenC call it base (.region s_gnomonlaw25_UpdateCases_r11t8 [] [50, 51, 52, 53, 54, 55, 56, 57, 58, 59, 60, 61, 62, 63, 64, 65]) (opsC [] s_gnomonlaw25_UpdateCases_r11p7 [] (evOps call base [⟨some 60, (.move (.t 10)), some (58, false)⟩] f H)) := (row_op call it base s_gnomonlaw25_UpdateCases_r11p7 s_gnomonlaw25_UpdateCases_r11t8 (kc := []) (by kernel_rfl) f H).trans (by rw [row_ops]; rfl)
theorem s_gnomonlaw25_UpdateCases_r11t8_x (call : CallF) (it : IterF) (base : Nat) (f : List V) (H : Heap) : evC call it base (.region s_gnomonlaw25_UpdateCases_r11t8 [] [50, 51, 52, 53, 54, 55, 56, 57, 58, 59, 60, 61, 62, 63, 64, 65]) f H = thenC call it base (.region s_gnomonlaw25_UpdateCases_r11t9 [] [50, 51, 52, 53, 54, 55, 56, 57, 58, 59, 60, 61, 62, 63, 64, 65]) (opsC [] s_gnomonlaw25_UpdateCases_r11p8 [] (evOps call base [⟨some 61, (.move (.t 3)), some (58, false)⟩] f H)) := (row_op call it base s_gnomonlaw25_UpdateCases_r11p8 s_gnomonlaw25_UpdateCases_r11t9 (kc := []) (by kernel_rfl) f H).trans (by rw [row_ops]; rfl)
theorem s_gnomonlaw25_UpdateCases_r11t9_x (call : CallF) (it : IterF) (base : Nat) (f : List V) (H : Heap) : evC call it base (.region s_gnomonlaw25_UpdateCases_r11t9 [] [50, 51, 52, 53, 54, 55, 56, 57, 58, 59, 60, 61, 62, 63, 64, 65]) f H = thenC call it base (.region s_gnomonlaw25_UpdateCases_r11t10 [] [50, 51, 52, 53, 54, 55, 56, 57, 58, 59, 60, 61, 62, 63, 64, 65]) (opsC [] s_gnomonlaw25_UpdateCases_r11p9 [] (evOps call base [⟨some 62, (.move (.t 14)), some (58, false)⟩] f H)) := (row_op call it base s_gnomonlaw25_UpdateCases_r11p9 s_gnomonlaw25_UpdateCases_r11t10 (kc := []) (by kernel_rfl) f H).trans (by rw [row_ops]; rfl)
theorem s_gnomonlaw25_UpdateCases_r11t10_x (call : CallF) (it : IterF) (base : Nat) (f : List V) (H : Heap) : evC call it base (.region s_gnomonlaw25_UpdateCases_r11t10 [] [50, 51, 52, 53, 54, 55, 56, 57, 58, 59, 60, 61, 62, 63, 64, 65]) f H = thenC call it base (.region s_gnomonlaw25_UpdateCases_r11t11 [] [50, 51, 52, 53, 54, 55, 56, 57, 58, 59, 60, 61, 62, 63, 64, 65]) (opsC [] s_gnomonlaw25_UpdateCases_r11p10 [59, 60, 61, 62] (evOps call base [⟨some 63, (.call (.c (.fn 9 [] [])) [(.t 59), (.t 60), (.c (.s (.pointer none))), (.t 61), (.t 62)]), some (58, false)⟩] f H)) := (row_op call it base s_gnomonlaw25_UpdateCases_r11p10 s_gnomonlaw25_UpdateCases_r11t11 (kc := [59, 60, 61, 62]) (by kernel_rfl) f H).trans (by rw [row_ops]; rfl)
theorem s_gnomonlaw25_UpdateCases_r11t11_x (call : CallF) (it : IterF) (base : Nat) (f : List V) (H : Heap) : evC call it base (.region s_gnomonlaw25_UpdateCases_r11t11 [] [50, 51, 52, 53, 54, 55, 56, 57, 58, 59, 60, 61, 62, 63, 64, 65]) f H = thenC call it base (.region s_gnomonlaw25_UpdateCases_r11t12 [] [50, 51, 52, 53, 54, 55, 56, 57, 58, 59, 60, 61, 62, 63, 64, 65]) (opsC [] s_gnomonlaw25_UpdateCases_r11p11 [63] (evOps call base [⟨some 64, (.call (.c (.fn 16 [] [])) [(.t 63)]), some (58, false)⟩] f H)) := (row_op call it base s_gnomonlaw25_UpdateCases_r11p11 s_gnomonlaw25_UpdateCases_r11t12 (kc := [63]) (by kernel_rfl) f H).trans (by rw [row_ops]; rfl)
theorem s_gnomonlaw25_UpdateCases_r11t12_tale (fr : List V) (H : Heap) : evTale (symAll s_gnomonlaw25_UpdateCases_r11t12 [50, 51, 52, 53, 54, 55, 56, 57, 58, 59, 60, 61, 62, 63, 64, 65] [66]) [50, 51, 52, 53, 54, 55, 56, 57, 58, 59, 60, 61, 62, 63, 64, 65] fr H = evTale (some (67, [], [(66, (.pick (.t 58) (.c (.s (.bool true))) (.op (.bin .neq (.t 0) (.c (.s (.int .i64 0)))) [(.t 64), (.c (.s (.int .i64 0)))])))])) [50, 51, 52, 53, 54, 55, 56, 57, 58, 59, 60, 61, 62, 63, 64, 65] fr H := tale_row (items := [.sub 0 [2] [58], .sub 0 [] []]) (by kernel_rfl) fr H
theorem s_gnomonlaw25_UpdateCases_r11t12_x (call : CallF) (it : IterF) (base : Nat) (f : List V) (H : Heap) : evC call it base (.region s_gnomonlaw25_UpdateCases_r11t12 [] [50, 51, 52, 53, 54, 55, 56, 57, 58, 59, 60, 61, 62, 63, 64, 65]) f H = segL H (evTale (symAll s_gnomonlaw25_UpdateCases_r11t12 [50, 51, 52, 53, 54, 55, 56, 57, 58, 59, 60, 61, 62, 63, 64, 65] [66]) [50, 51, 52, 53, 54, 55, 56, 57, 58, 59, 60, 61, 62, 63, 64, 65] f H) (origRow call it base s_gnomonlaw25_UpdateCases_r11t12 [50, 51, 52, 53, 54, 55, 56, 57, 58, 59, 60, 61, 62, 63, 64, 65] f H) := row_last call it base _ f H
def s_gnomonlaw25_UpdateCases_r12 : List AOper := [
  ⟨some 8, (.move (.c (.s (.bool false)))), none⟩]
theorem s_gnomonlaw25_UpdateCases_r12_tale (fr : List V) (H : Heap) : evTale (symAll s_gnomonlaw25_UpdateCases_r12 [3, 9, 10, 11, 12, 13, 14, 66] [8]) [3, 9, 10, 11, 12, 13, 14, 66] fr H = evTale (some (9, [], [(8, (.c (.s (.bool false))))])) [3, 9, 10, 11, 12, 13, 14, 66] fr H := tale_row (items := [.cc (.s (.bool false))]) (by kernel_rfl) fr H
def s_gnomonlaw25_UpdateCases_r13t11 : List AOper := [⟨some 79, (.un .not (.t 78)), some (70, true)⟩, ⟨some 80, (.pick (.t 70) (.t 79) (.c (.s (.bool false)))), none⟩]
def s_gnomonlaw25_UpdateCases_r13p10 : List AOper := [⟨some 78, (.call (.c (.fn 15 [] [])) [(.t 76), (.t 77)]), some (70, true)⟩]
def s_gnomonlaw25_UpdateCases_r13t10 : List AOper := s_gnomonlaw25_UpdateCases_r13p10 ++ s_gnomonlaw25_UpdateCases_r13t11
def s_gnomonlaw25_UpdateCases_r13p9 : List AOper := [⟨some 77, (.move (.t 9)), some (70, true)⟩]
def s_gnomonlaw25_UpdateCases_r13t9 : List AOper := s_gnomonlaw25_UpdateCases_r13p9 ++ s_gnomonlaw25_UpdateCases_r13t10
def s_gnomonlaw25_UpdateCases_r13p8 : List AOper := [⟨some 76, (.call (.c (.fn 9 [] [])) [(.t 71), (.t 72), (.t 73), (.t 74), (.t 75)]), some (70, true)⟩]
def s_gnomonlaw25_UpdateCases_r13t8 : List AOper := s_gnomonlaw25_UpdateCases_r13p8 ++ s_gnomonlaw25_UpdateCases_r13t9
def s_gnomonlaw25_UpdateCases_r13p7 : List AOper := [⟨some 75, (.move (.t 14)), some (70, true)⟩]
def s_gnomonlaw25_UpdateCases_r13t7 : List AOper := s_gnomonlaw25_UpdateCases_r13p7 ++ s_gnomonlaw25_UpdateCases_r13t8
def s_gnomonlaw25_UpdateCases_r13p6 : List AOper := [⟨some 74, (.move (.t 3)), some (70, true)⟩]
def s_gnomonlaw25_UpdateCases_r13t6 : List AOper := s_gnomonlaw25_UpdateCases_r13p6 ++ s_gnomonlaw25_UpdateCases_r13t7
def s_gnomonlaw25_UpdateCases_r13p5 : List AOper := [⟨some 73, (.move (.t 12)), some (70, true)⟩]
def s_gnomonlaw25_UpdateCases_r13t5 : List AOper := s_gnomonlaw25_UpdateCases_r13p5 ++ s_gnomonlaw25_UpdateCases_r13t6
def s_gnomonlaw25_UpdateCases_r13p4 : List AOper := [⟨some 72, (.move (.t 10)), some (70, true)⟩]
def s_gnomonlaw25_UpdateCases_r13t4 : List AOper := s_gnomonlaw25_UpdateCases_r13p4 ++ s_gnomonlaw25_UpdateCases_r13t5
def s_gnomonlaw25_UpdateCases_r13p3 : List AOper := [⟨some 71, (.move (.t 9)), some (70, true)⟩]
def s_gnomonlaw25_UpdateCases_r13t3 : List AOper := s_gnomonlaw25_UpdateCases_r13p3 ++ s_gnomonlaw25_UpdateCases_r13t4
def s_gnomonlaw25_UpdateCases_r13p2 : List AOper := [⟨some 69, (.bin .gtr (.t 68) (.c (.s (.int .i64 0)))), none⟩, ⟨some 70, (.move (.t 69)), none⟩]
def s_gnomonlaw25_UpdateCases_r13t2 : List AOper := s_gnomonlaw25_UpdateCases_r13p2 ++ s_gnomonlaw25_UpdateCases_r13t3
def s_gnomonlaw25_UpdateCases_r13p1 : List AOper := [⟨some 68, (.call (.c (.fn 16 [] [])) [(.t 67)]), none⟩]
def s_gnomonlaw25_UpdateCases_r13t1 : List AOper := s_gnomonlaw25_UpdateCases_r13p1 ++ s_gnomonlaw25_UpdateCases_r13t2
def s_gnomonlaw25_UpdateCases_r13p0 : List AOper := [⟨some 67, (.move (.t 12)), none⟩]
def s_gnomonlaw25_UpdateCases_r13 : List AOper := s_gnomonlaw25_UpdateCases_r13p0 ++ s_gnomonlaw25_UpdateCases_r13t1
theorem s_gnomonlaw25_UpdateCases_r13p0_tale (fr : List V) (H : Heap) : evTale (symAll s_gnomonlaw25_UpdateCases_r13p0 [66] [67]) [66] fr H = evTale (some (68, [], [(67, (.t 12))])) [66] fr H := tale_row (items := [.tt 12]) (by kernel_rfl) fr H
theorem s_gnomonlaw25_UpdateCases_r13_x (call : CallF) (it : IterF) (base : Nat) (f : List V) (H : Heap) : evC call it base (.region s_gnomonlaw25_UpdateCases_r13 [] [66, 67, 68, 69, 70, 71, 72, 73, 74, 75, 76, 77, 78, 79]) f H = segC call it base s_gnomonlaw25_UpdateCases_r13t1 [66, 67, 68, 69, 70, 71, 72, 73, 74, 75, 76, 77, 78, 79] H (evTale (symAll s_gnomonlaw25_UpdateCases_r13p0 [66] [67]) [66] f H) (origRow call it base s_gnomonlaw25_UpdateCases_r13 [66, 67, 68, 69, 70, 71, 72, 73, 74, 75, 76, 77, 78, 79] f H) := row_seg call it base s_gnomonlaw25_UpdateCases_r13p0 s_gnomonlaw25_UpdateCases_r13t1 (by kernel_rfl) f H
theorem s_gnomonlaw25_UpdateCases_r13t1_x (call : CallF) (it : IterF) (base : Nat) (f : List V) (H : Heap) : evC call it base (.region s_gnomonlaw25_UpdateCases_r13t1 [] [66, 67, 68, 69, 70, 71, 72, 73, 74, 75, 76, 77, 78, 79]) f H = thenC call it base (.region s_gnomonlaw25_UpdateCases_r13t2 [] [66, 67, 68, 69, 70, 71, 72, 73, 74, 75, 76, 77, 78, 79]) (opsC [] s_gnomonlaw25_UpdateCases_r13p1 [67] (evOps call base [⟨some 68, (.call (.c (.fn 16 [] [])) [(.t 67)]), none⟩] f H)) := (row_op call it base s_gnomonlaw25_UpdateCases_r13p1 s_gnomonlaw25_UpdateCases_r13t2 (kc := [67]) (by kernel_rfl) f H).trans (by rw [row_ops]; rfl)
theorem s_gnomonlaw25_UpdateCases_r13p2_tale (fr : List V) (H : Heap) : evTale (symAll s_gnomonlaw25_UpdateCases_r13p2 [68, 69] [70]) [68, 69] fr H = evTale (some (71, [], [(70, (.op (.bin .gtr (.t 0) (.c (.s (.int .i64 0)))) [(.t 68), (.c (.s (.int .i64 0)))]))])) [68, 69] fr H := tale_row (items := [.sub 0 [] [], .sub 0 [] []]) (by kernel_rfl) fr H
theorem s_gnomonlaw25_UpdateCases_r13t2_x (call : CallF) (it : IterF) (base : Nat) (f : List V) (H : Heap) : evC call it base (.region s_gnomonlaw25_UpdateCases_r13t2 [] [66, 67, 68, 69, 70, 71, 72, 73, 74, 75, 76, 77, 78, 79]) f H = segC call it base s_gnomonlaw25_UpdateCases_r13t3 [66, 67, 68, 69, 70, 71, 72, 73, 74, 75, 76, 77, 78, 79] H (evTale (symAll s_gnomonlaw25_UpdateCases_r13p2 [68, 69] [70]) [68, 69] f H) (origRow call it base s_gnomonlaw25_UpdateCases_r13t2 [66, 67, 68, 69, 70, 71, 72, 73, 74, 75, 76, 77, 78, 79] f H) := row_seg call it base s_gnomonlaw25_UpdateCases_r13p2 s_gnomonlaw25_UpdateCases_r13t3 (by kernel_rfl) f H
theorem s_gnomonlaw25_UpdateCases_r13t3_x (call : CallF) (it : IterF) (base : Nat) (f : List V) (H : Heap) : evC call it base (.region s_gnomonlaw25_UpdateCases_r13t3 [] [66, 67, 68, 69, 70, 71, 72, 73, 74, 75, 76, 77, 78, 79]) f H = thenC call it base (.region s_gnomonlaw25_UpdateCases_r13t4 [] [66, 67, 68, 69, 70, 71, 72, 73, 74, 75, 76, 77, 78, 79]) (opsC [] s_gnomonlaw25_UpdateCases_r13p3 [] (evOps call base [⟨some 71, (.move (.t 9)), some (70, true)⟩] f H)) := (row_op call it base s_gnomonlaw25_UpdateCases_r13p3 s_gnomonlaw25_UpdateCases_r13t4 (kc := []) (by kernel_rfl) f H).trans (by rw [row_ops]; rfl)
theorem s_gnomonlaw25_UpdateCases_r13t4_x (call : CallF) (it : IterF) (base : Nat) (f : List V) (H : Heap) : evC call it base (.region s_gnomonlaw25_UpdateCases_r13t4 [] [66, 67, 68, 69, 70, 71, 72, 73, 74, 75, 76, 77, 78, 79]) f H = thenC call it base (.region s_gnomonlaw25_UpdateCases_r13t5 [] [66, 67, 68, 69, 70, 71, 72, 73, 74, 75, 76, 77, 78, 79]) (opsC [] s_gnomonlaw25_UpdateCases_r13p4 [] (evOps call base [⟨some 72, (.move (.t 10)), some (70, true)⟩] f H)) := (row_op call it base s_gnomonlaw25_UpdateCases_r13p4 s_gnomonlaw25_UpdateCases_r13t5 (kc := []) (by kernel_rfl) f H).trans (by rw [row_ops]; rfl)
theorem s_gnomonlaw25_UpdateCases_r13t5_x (call : CallF) (it : IterF) (base : Nat) (f : List V) (H : Heap) : evC call it base (.region s_gnomonlaw25_UpdateCases_r13t5 [] [66, 67, 68, 69, 70, 71, 72, 73, 74, 75, 76, 77, 78, 79]) f H = thenC call it base (.region s_gnomonlaw25_UpdateCases_r13t6 [] [66, 67, 68, 69, 70, 71, 72, 73, 74, 75, 76, 77, 78, 79]) (opsC [] s_gnomonlaw25_UpdateCases_r13p5 [] (evOps call base [⟨some 73, (.move (.t 12)), some (70, true)⟩] f H)) := (row_op call it base s_gnomonlaw25_UpdateCases_r13p5 s_gnomonlaw25_UpdateCases_r13t6 (kc := []) (by kernel_rfl) f H).trans (by rw [row_ops]; rfl)
theorem s_gnomonlaw25_UpdateCases_r13t6_x (call : CallF) (it : IterF) (base : Nat) (f : List V) (H : Heap) : evC call it base (.region s_gnomonlaw25_UpdateCases_r13t6 [] [66, 67, 68, 69, 70, 71, 72, 73, 74, 75, 76, 77, 78, 79]) f H = thenC call it base (.region s_gnomonlaw25_UpdateCases_r13t7 [] [66, 67, 68, 69, 70, 71, 72, 73, 74, 75, 76, 77, 78, 79]) (opsC [] s_gnomonlaw25_UpdateCases_r13p6 [] (evOps call base [⟨some 74, (.move (.t 3)), some (70, true)⟩] f H)) := (row_op call it base s_gnomonlaw25_UpdateCases_r13p6 s_gnomonlaw25_UpdateCases_r13t7 (kc := []) (by kernel_rfl) f H).trans (by rw [row_ops]; rfl)
theorem s_gnomonlaw25_UpdateCases_r13t7_x (call : CallF) (it : IterF) (base : Nat) (f : List V) (H : Heap) : evC call it base (.region s_gnomonlaw25_UpdateCases_r13t7 [] [66, 67, 68, 69, 70, 71, 72, 73, 74, 75, 76, 77, 78, 79]) f H = thenC call it base (.region s_gnomonlaw25_UpdateCases_r13t8 [] [66, 67, 68, 69, 70, 71, 72, 73, 74, 75, 76, 77, 78, 79]) (opsC [] s_gnomonlaw25_UpdateCases_r13p7 [] (evOps call base [⟨some 75, (.move (.t 14)), some (70, true)⟩] f H)) := (row_op call it base s_gnomonlaw25_UpdateCases_r13p7 s_gnomonlaw25_UpdateCases_r13t8 (kc := []) (by kernel_rfl) f H).trans (by rw [row_ops]; rfl)
theorem s_gnomonlaw25_UpdateCases_r13t8_x (call : CallF) (it : IterF) (base : Nat) (f : List V) (H : Heap) : evC call it base (.region s_gnomonlaw25_UpdateCases_r13t8 [] [66, 67, 68, 69, 70, 71, 72, 73, 74, 75, 76, 77, 78, 79]) f H = thenC call it base (.region s_gnomonlaw25_UpdateCases_r13t9 [] [66, 67, 68, 69, 70, 71, 72, 73, 74, 75, 76, 77, 78, 79]) (opsC [] s_gnomonlaw25_UpdateCases_r13p8 [71, 72, 73, 74, 75] (evOps call base [⟨some 76, (.call (.c (.fn 9 [] [])) [(.t 71), (.t 72), (.t 73), (.t 74), (.t 75)]), some (70, true)⟩] f H)) := (row_op call it base s_gnomonlaw25_UpdateCases_r13p8 s_gnomonlaw25_UpdateCases_r13t9 (kc := [71, 72, 73, 74, 75]) (by kernel_rfl) f H).trans (by rw [row_ops]; rfl)
theorem s_gnomonlaw25_UpdateCases_r13t9_x (call : CallF) (it : IterF) (base : Nat) (f : List V) (H : Heap) : evC call it base (.region s_gnomonlaw25_UpdateCases_r13t9 [] [66, 67, 68, 69, 70, 71, 72, 73, 74, 75, 76, 77, 78, 79]) f H = thenC call it base (.region s_gnomonlaw25_UpdateCases_r13t10 [] [66, 67, 68, 69, 70, 71, 72, 73, 74, 75, 76, 77, 78, 79]) (opsC [] s_gnomonlaw25_UpdateCases_r13p9 [] (evOps call base [⟨some 77, (.move (.t 9)), some (70, true)⟩] f H)) := (row_op call it base s_gnomonlaw25_UpdateCases_r13p9 s_gnomonlaw25_UpdateCases_r13t10 (kc := []) (by kernel_rfl) f H).trans (by rw [row_ops]; rfl)
theorem s_gnomonlaw25_UpdateCases_r13t10_x (call : CallF) (it : IterF) (base : Nat) (f : List V) (H : Heap) : evC call it base (.region s_gnomonlaw25_UpdateCases_r13t10 [] [66, 67, 68, 69, 70, 71, 72, 73, 74, 75, 76, 77, 78, 79]) f H = thenC call it base (.region s_gnomonlaw25_UpdateCases_r13t11 [] [66, 67, 68, 69, 70, 71, 72, 73, 74, 75, 76, 77, 78, 79]) (opsC [] s_gnomonlaw25_UpdateCases_r13p10 [76, 77] (evOps call base [⟨some 78, (.call (.c (.fn 15 [] [])) [(.t 76), (.t 77)]), some (70, true)⟩] f H)) := (row_op call it base s_gnomonlaw25_UpdateCases_r13p10 s_gnomonlaw25_UpdateCases_r13t11 (kc := [76, 77]) (by kernel_rfl) f H).trans (by rw [row_ops]; rfl)
theorem s_gnomonlaw25_UpdateCases_r13t11_tale (fr : List V) (H : Heap) : evTale (symAll s_gnomonlaw25_UpdateCases_r13t11 [66, 67, 68, 69, 70, 71, 72, 73, 74, 75, 76, 77, 78, 79] [80]) [66, 67, 68, 69, 70, 71, 72, 73, 74, 75, 76, 77, 78, 79] fr H = evTale (some (81, [], [(80, (.pick (.t 70) (.op (.un .not (.t 0)) [(.t 78)]) (.c (.s (.bool false)))))])) [66, 67, 68, 69, 70, 71, 72, 73, 74, 75, 76, 77, 78, 79] fr H := tale_row (items := [.sub 0 [1] [70], .sub 0 [] []]) (by kernel_rfl) fr H
theorem s_gnomonlaw25_UpdateCases_r13t11_x (call : CallF) (it : IterF) (base : Nat) (f : List V) (H : Heap) : evC call it base (.region s_gnomonlaw25_UpdateCases_r13t11 [] [66, 67, 68, 69, 70, 71, 72, 73, 74, 75, 76, 77, 78, 79]) f H = segL H (evTale (symAll s_gnomonlaw25_UpdateCases_r13t11 [66, 67, 68, 69, 70, 71, 72, 73, 74, 75, 76, 77, 78, 79] [80]) [66, 67, 68, 69, 70, 71, 72, 73, 74, 75, 76, 77, 78, 79] f H) (origRow call it base s_gnomonlaw25_UpdateCases_r13t11 [66, 67, 68, 69, 70, 71, 72, 73, 74, 75, 76, 77, 78, 79] f H) := row_last call it base _ f H
def s_gnomonlaw25_UpdateCases_r14 : List AOper := [
  ⟨some 8, (.move (.c (.s (.bool false)))), none⟩]
theorem s_gnomonlaw25_UpdateCases_r14_tale (fr : List V) (H : Heap) : evTale (symAll s_gnomonlaw25_UpdateCases_r14 [3, 9, 10, 11, 12, 13, 14, 80] [8]) [3, 9, 10, 11, 12, 13, 14, 80] fr H = evTale (some (9, [], [(8, (.c (.s (.bool false))))])) [3, 9, 10, 11, 12, 13, 14, 80] fr H := tale_row (items := [.cc (.s (.bool false))]) (by kernel_rfl) fr H
def s_gnomonlaw25_UpdateCases_r15t2 : List AOper := [⟨some 15, (.move (.t 82)), none⟩]
def s_gnomonlaw25_UpdateCases_r15p1 : List AOper := [⟨some 82, (.call (.c (.fn 12 [] [])) [(.t 81)]), none⟩]
def s_gnomonlaw25_UpdateCases_r15t1 : List AOper := s_gnomonlaw25_UpdateCases_r15p1 ++ s_gnomonlaw25_UpdateCases_r15t2
def s_gnomonlaw25_UpdateCases_r15p0 : List AOper := [⟨some 81, (.move (.t 12)), none⟩]
def s_gnomonlaw25_UpdateCases_r15 : List AOper := s_gnomonlaw25_UpdateCases_r15p0 ++ s_gnomonlaw25_UpdateCases_r15t1
theorem s_gnomonlaw25_UpdateCases_r15p0_tale (fr : List V) (H : Heap) : evTale (symAll s_gnomonlaw25_UpdateCases_r15p0 [80] [81]) [80] fr H = evTale (some (82, [], [(81, (.t 12))])) [80] fr H := tale_row (items := [.tt 12]) (by kernel_rfl) fr H
theorem s_gnomonlaw25_UpdateCases_r15_x (call : CallF) (it : IterF) (base : Nat) (f : List V) (H : Heap) : evC call it base (.region s_gnomonlaw25_UpdateCases_r15 [] [80, 81, 82]) f H = segC call it base s_gnomonlaw25_UpdateCases_r15t1 [80, 81, 82] H (evTale (symAll s_gnomonlaw25_UpdateCases_r15p0 [80] [81]) [80] f H) (origRow call it base s_gnomonlaw25_UpdateCases_r15 [80, 81, 82] f H) := row_seg call it base s_gnomonlaw25_UpdateCases_r15p0 s_gnomonlaw25_UpdateCases_r15t1 (by kernel_rfl) f H
theorem s_gnomonlaw25_UpdateCases_r15t1_x (call : CallF) (it : IterF) (base : Nat) (f : List V) (H : Heap) : evC call it base (.region s_gnomonlaw25_UpdateCases_r15t1 [] [80, 81, 82]) f H = thenC call it base (.region s_gnomonlaw25_UpdateCases_r15t2 [] [80, 81, 82]) (opsC [] s_gnomonlaw25_UpdateCases_r15p1 [81] (evOps call base [⟨some 82, (.call (.c (.fn 12 [] [])) [(.t 81)]), none⟩] f H)) := (row_op call it base s_gnomonlaw25_UpdateCases_r15p1 s_gnomonlaw25_UpdateCases_r15t2 (kc := [81]) (by kernel_rfl) f H).trans (by rw [row_ops]; rfl)
theorem s_gnomonlaw25_UpdateCases_r15t2_tale (fr : List V) (H : Heap) : evTale (symAll s_gnomonlaw25_UpdateCases_r15t2 [80, 81, 82] [15]) [80, 81, 82] fr H = evTale (some (16, [], [(15, (.t 82))])) [80, 81, 82] fr H := tale_row (items := [.tt 82]) (by kernel_rfl) fr H
theorem s_gnomonlaw25_UpdateCases_r15t2_x (call : CallF) (it : IterF) (base : Nat) (f : List V) (H : Heap) : evC call it base (.region s_gnomonlaw25_UpdateCases_r15t2 [] [80, 81, 82]) f H = segL H (evTale (symAll s_gnomonlaw25_UpdateCases_r15t2 [80, 81, 82] [15]) [80, 81, 82] f H) (origRow call it base s_gnomonlaw25_UpdateCases_r15t2 [80, 81, 82] f H) := row_last call it base _ f H
def s_gnomonlaw25_UpdateCases_r16t1 : List AOper := [⟨some 85, (.call (.c (.fn 18 [] [])) [(.t 83), (.t 84)]), none⟩]
def s_gnomonlaw25_UpdateCases_r16p0 : List AOper := [⟨some 83, (.move (.t 15)), none⟩, ⟨some 84, (.move (.t 3)), none⟩]
def s_gnomonlaw25_UpdateCases_r16 : List AOper := s_gnomonlaw25_UpdateCases_r16p0 ++ s_gnomonlaw25_UpdateCases_r16t1
theorem s_gnomonlaw25_UpdateCases_r16p0_tale (fr : List V) (H : Heap) : evTale (symAll s_gnomonlaw25_UpdateCases_r16p0 [] [83, 84]) [] fr H = evTale (some (85, [], [(83, (.t 15)), (84, (.t 3))])) [] fr H := tale_row (items := [.tt 15, .tt 3]) (by kernel_rfl) fr H
theorem s_gnomonlaw25_UpdateCases_r16_x (call : CallF) (it : IterF) (base : Nat) (f : List V) (H : Heap) : evC call it base (.region s_gnomonlaw25_UpdateCases_r16 [] [83, 84, 85]) f H = segC call it base s_gnomonlaw25_UpdateCases_r16t1 [83, 84, 85] H (evTale (symAll s_gnomonlaw25_UpdateCases_r16p0 [] [83, 84]) [] f H) (origRow call it base s_gnomonlaw25_UpdateCases_r16 [83, 84, 85] f H) := row_seg call it base s_gnomonlaw25_UpdateCases_r16p0 s_gnomonlaw25_UpdateCases_r16t1 (by kernel_rfl) f H
theorem s_gnomonlaw25_UpdateCases_r16t1_x (call : CallF) (it : IterF) (base : Nat) (f : List V) (H : Heap) : evC call it base (.region s_gnomonlaw25_UpdateCases_r16t1 [] [83, 84, 85]) f H = opsC [] s_gnomonlaw25_UpdateCases_r16t1 [83, 84, 85] (evOps call base [⟨some 85, (.call (.c (.fn 18 [] [])) [(.t 83), (.t 84)]), none⟩] f H) := row_ops call it base _ _ _ f H
def s_gnomonlaw25_UpdateCases_r17t12 : List AOper := [⟨some 102, (.un .not (.t 101)), some (93, true)⟩, ⟨some 103, (.pick (.t 93) (.t 102) (.c (.s (.bool false)))), none⟩]
def s_gnomonlaw25_UpdateCases_r17p11 : List AOper := [⟨some 101, (.call (.c (.fn 15 [] [])) [(.t 99), (.t 100)]), some (93, true)⟩]
def s_gnomonlaw25_UpdateCases_r17t11 : List AOper := s_gnomonlaw25_UpdateCases_r17p11 ++ s_gnomonlaw25_UpdateCases_r17t12
def s_gnomonlaw25_UpdateCases_r17p10 : List AOper := [⟨some 100, (.move (.t 11)), some (93, true)⟩]
def s_gnomonlaw25_UpdateCases_r17t10 : List AOper := s_gnomonlaw25_UpdateCases_r17p10 ++ s_gnomonlaw25_UpdateCases_r17t11
def s_gnomonlaw25_UpdateCases_r17p9 : List AOper := [⟨some 99, (.call (.c (.fn 9 [] [])) [(.t 94), (.t 95), (.t 96), (.t 97), (.t 98)]), some (93, true)⟩]
def s_gnomonlaw25_UpdateCases_r17t9 : List AOper := s_gnomonlaw25_UpdateCases_r17p9 ++ s_gnomonlaw25_UpdateCases_r17t10
def s_gnomonlaw25_UpdateCases_r17p8 : List AOper := [⟨some 98, (.move (.t 14)), some (93, true)⟩]
def s_gnomonlaw25_UpdateCases_r17t8 : List AOper := s_gnomonlaw25_UpdateCases_r17p8 ++ s_gnomonlaw25_UpdateCases_r17t9
def s_gnomonlaw25_UpdateCases_r17p7 : List AOper := [⟨some 97, (.move (.t 3)), some (93, true)⟩]
def s_gnomonlaw25_UpdateCases_r17t7 : List AOper := s_gnomonlaw25_UpdateCases_r17p7 ++ s_gnomonlaw25_UpdateCases_r17t8
def s_gnomonlaw25_UpdateCases_r17p6 : List AOper := [⟨some 96, (.move (.t 15)), some (93, true)⟩]
def s_gnomonlaw25_UpdateCases_r17t6 : List AOper := s_gnomonlaw25_UpdateCases_r17p6 ++ s_gnomonlaw25_UpdateCases_r17t7
def s_gnomonlaw25_UpdateCases_r17p5 : List AOper := [⟨some 95, (.move (.t 10)), some (93, true)⟩]
def s_gnomonlaw25_UpdateCases_r17t5 : List AOper := s_gnomonlaw25_UpdateCases_r17p5 ++ s_gnomonlaw25_UpdateCases_r17t6
def s_gnomonlaw25_UpdateCases_r17p4 : List AOper := [⟨some 94, (.move (.t 9)), some (93, true)⟩]
def s_gnomonlaw25_UpdateCases_r17t4 : List AOper := s_gnomonlaw25_UpdateCases_r17p4 ++ s_gnomonlaw25_UpdateCases_r17t5
def s_gnomonlaw25_UpdateCases_r17p3 : List AOper := [⟨some 91, (.bin .gtr (.t 90) (.c (.s (.int .i64 0)))), some (88, true)⟩, ⟨some 92, (.pick (.t 88) (.t 91) (.c (.s (.bool false)))), none⟩, ⟨some 93, (.move (.t 92)), none⟩]
def s_gnomonlaw25_UpdateCases_r17t3 : List AOper := s_gnomonlaw25_UpdateCases_r17p3 ++ s_gnomonlaw25_UpdateCases_r17t4
def s_gnomonlaw25_UpdateCases_r17p2 : List AOper := [⟨some 90, (.call (.c (.fn 16 [] [])) [(.t 89)]), some (88, true)⟩]
def s_gnomonlaw25_UpdateCases_r17t2 : List AOper := s_gnomonlaw25_UpdateCases_r17p2 ++ s_gnomonlaw25_UpdateCases_r17t3
def s_gnomonlaw25_UpdateCases_r17p1 : List AOper := [⟨some 89, (.move (.t 12)), some (88, true)⟩]
def s_gnomonlaw25_UpdateCases_r17t1 : List AOper := s_gnomonlaw25_UpdateCases_r17p1 ++ s_gnomonlaw25_UpdateCases_r17t2
def s_gnomonlaw25_UpdateCases_r17p0 : List AOper := [⟨some 86, (.move (.t 3)), none⟩, ⟨some 87, (.bin .geq (.t 86) (.c (.s (.int .i64 0)))), none⟩, ⟨some 88, (.move (.t 87)), none⟩]
def s_gnomonlaw25_UpdateCases_r17 : List AOper := s_gnomonlaw25_UpdateCases_r17p0 ++ s_gnomonlaw25_UpdateCases_r17t1
theorem s_gnomonlaw25_UpdateCases_r17p0_tale (fr : List V) (H : Heap) : evTale (symAll s_gnomonlaw25_UpdateCases_r17p0 [86, 87] [88]) [86, 87] fr H = evTale (some (89, [], [(88, (.op (.bin .geq (.t 0) (.c (.s (.int .i64 0)))) [(.t 3), (.c (.s (.int .i64 0)))]))])) [86, 87] fr H := tale_row (items := [.tt 3, .sub 0 [] [], .sub 0 [] []]) (by kernel_rfl) fr H
theorem s_gnomonlaw25_UpdateCases_r17_x (call : CallF) (it : IterF) (base : Nat) (f : List V) (H : Heap) : evC call it base (.region s_gnomonlaw25_UpdateCases_r17 [] [14, 15, 86, 87, 88, 89, 90, 91, 92, 93, 94, 95, 96, 97, 98, 99, 100, 101, 102]) f H = segC call it base s_gnomonlaw25_UpdateCases_r17t1 [14, 15, 86, 87, 88, 89, 90, 91, 92, 93, 94, 95, 96, 97, 98, 99, 100, 101, 102] H (evTale (symAll s_gnomonlaw25_UpdateCases_r17p0 [86, 87] [88]) [86, 87] f H) (origRow call it base s_gnomonlaw25_UpdateCases_r17 [14, 15, 86, 87, 88, 89, 90, 91, 92, 93, 94, 95, 96, 97, 98, 99, 100, 101, 102] f H) := row_seg call it base s_gnomonlaw25_UpdateCases_r17p0 s_gnomonlaw25_UpdateCases_r17t1 (by kernel_rfl) f H
theorem s_gnomonlaw25_UpdateCases_r17t1_x (call : CallF) (it : IterF) (base : Nat) (f : List V) (H : Heap) : evC call it base (.region s_gnomonlaw25_UpdateCases_r17t1 [] [14, 15, 86, 87, 88, 89, 90, 91, 92, 93, 94, 95, 96, 97, 98, 99, 100, 101, 102]) f H = thenC call it base (.region s_gnomonlaw25_UpdateCases_r17t2 [] [14, 15, 86, 87, 88, 89, 90, 91, 92, 93, 94, 95, 96, 97, 98, 99, 100, 101, 102]) (opsC [] s_gnomonlaw25_UpdateCases_r17p1 [] (evOps call base [⟨some 89, (.move (.t 12)), some (88, true)⟩] f H)) := (row_op call it base s_gnomonlaw25_UpdateCases_r17p1 s_gnomonlaw25_UpdateCases_r17t2 (kc := []) (by kernel_rfl) f H).trans (by rw [row_ops]; rfl)
theorem s_gnomonlaw25_UpdateCases_r17t2_x (call : CallF) (it : IterF) (base : Nat) (f : List V) (H : Heap) : evC call it base (.region s_gnomonlaw25_UpdateCases_r17t2 [] [14, 15, 86, 87, 88, 89, 90, 91, 92, 93, 94, 95, 96, 97, 98, 99, 100, 101, 102]) f H = thenC call it base (.region s_gnomonlaw25_UpdateCases_r17t3 [] [14, 15, 86, 87, 88, 89, 90, 91, 92, 93, 94, 95, 96, 97, 98, 99, 100, 101, 102]) (opsC [] s_gnomonlaw25_UpdateCases_r17p2 [89] (evOps call base [⟨some 90, (.call (.c (.fn 16 [] [])) [(.t 89)]), some (88, true)⟩] f H)) := (row_op call it base s_gnomonlaw25_UpdateCases_r17p2 s_gnomonlaw25_UpdateCases_r17t3 (kc := [89]) (by kernel_rfl) f H).trans (by rw [row_ops]; rfl)
theorem s_gnomonlaw25_UpdateCases_r17p3_tale (fr : List V) (H : Heap) : evTale (symAll s_gnomonlaw25_UpdateCases_r17p3 [88, 90, 91, 92] [93]) [88, 90, 91, 92] fr H = evTale (some (94, [], [(93, (.pick (.t 88) (.op (.bin .gtr (.t 0) (.c (.s (.int .i64 0)))) [(.t 90), (.c (.s (.int .i64 0)))]) (.c (.s (.bool false)))))])) [88, 90, 91, 92] fr H := tale_row (items := [.sub 0 [1] [88], .sub 0 [] [], .sub 0 [] []]) (by kernel_rfl) fr H
theorem s_gnomonlaw25_UpdateCases_r17t3_x (call : CallF) (it : IterF) (base : Nat) (f : List V) (H : Heap) : evC call it base (.region s_gnomonlaw25_UpdateCases_r17t3 [] [14, 15, 86, 87, 88, 89, 90, 91, 92, 93, 94, 95, 96, 97, 98, 99, 100, 101, 102]) f H = segC call it base s_gnomonlaw25_UpdateCases_r17t4 [14, 15, 86, 87, 88, 89, 90, 91, 92, 93, 94, 95, 96, 97, 98, 99, 100, 101, 102] H (evTale (symAll s_gnomonlaw25_UpdateCases_r17p3 [88, 90, 91, 92] [93]) [88, 90, 91, 92] f H) (origRow call it base s_gnomonlaw25_UpdateCases_r17t3 [14, 15, 86, 87, 88, 89, 90, 91, 92, 93, 94, 95, 96, 97, 98, 99, 100, 101, 102] f H) := row_seg call it base s_gnomonlaw25_UpdateCases_r17p3 s_gnomonlaw25_UpdateCases_r17t4 (by kernel_rfl) f H
theorem s_gnomonlaw25_UpdateCases_r17t4_x (call : CallF) (it : IterF) (base : Nat) (f : List V) (H : Heap) : evC call it base (.region s_gnomonlaw25_UpdateCases_r17t4 [] [14, 15, 86, 87, 88, 89, 90, 91, 92, 93, 94, 95, 96, 97, 98, 99, 100, 101, 102]) f H = thenC call it base (.region s_gnomonlaw25_UpdateCases_r17t5 [] [14, 15, 86, 87, 88, 89, 90, 91, 92, 93, 94, 95, 96, 97, 98, 99, 100, 101, 102]) (opsC [] s_gnomonlaw25_UpdateCases_r17p4 [] (evOps call base [⟨some 94, (.move (.t 9)), some (93, true)⟩] f H)) := (row_op call it base s_gnomonlaw25_UpdateCases_r17p4 s_gnomonlaw25_UpdateCases_r17t5 (kc := []) (by kernel_rfl) f H).trans (by rw [row_ops]; rfl)
theorem s_gnomonlaw25_UpdateCases_r17t5_x (call : CallF) (it : IterF) (base : Nat) (f : List V) (H : Heap) : evC call it base (.region s_gnomonlaw25_UpdateCases_r17t5 [] [14, 15, 86, 87, 88, 89, 90, 91, 92, 93, 94, 95, 96, 97, 98, 99, 100, 101, 102]) f H = thenC call it base (.region s_gnomonlaw25_UpdateCases_r17t6 [] [14, 15, 86, 87, 88, 89, 90, 91, 92, 93, 94, 95, 96, 97, 98, 99, 100, 101, 102]) (opsC [] s_gnomonlaw25_UpdateCases_r17p5 [] (evOps call base [⟨some 95, (.move (.t 10)), some (93, true)⟩] f H)) := (row_op call it base s_gnomonlaw25_UpdateCases_r17p5 s_gnomonlaw25_UpdateCases_r17t6 (kc := []) (by kernel_rfl) f H).trans (by rw [row_ops]; rfl)
theorem s_gnomonlaw25_UpdateCases_r17t6_x (call : CallF) (it : IterF) (base : Nat) (f : List V) (H : Heap) : evC call it base (.region s_gnomonlaw25_UpdateCases_r17t6 [] [14, 15, 86, 87, 88, 89, 90, 91, 92, 93, 94, 95, 96, 97, 98, 99, 100, 101, 102]) f H = thenC call it base (.region s_gnomonlaw25_UpdateCases_r17t7 [] [14, 15, 86, 87, 88, 89, 90, 91, 92, 93, 94, 95, 96, 97, 98, 99, 100, 101, 102]) (opsC [] s_gnomonlaw25_UpdateCases_r17p6 [15] (evOps call base [⟨some 96, (.move (.t 15)), some (93, true)⟩] f H)) := (row_op call it base s_gnomonlaw25_UpdateCases_r17p6 s_gnomonlaw25_UpdateCases_r17t7 (kc := [15]) (by kernel_rfl) f H).trans (by rw [row_ops]; rfl)
theorem s_gnomonlaw25_UpdateCases_r17t7_x (call : CallF) (it : IterF) (base : Nat) (f : List V) (H : Heap) : evC call it base (.region s_gnomonlaw25_UpdateCases_r17t7 [] [14, 15, 86, 87, 88, 89, 90, 91, 92, 93, 94, 95, 96, 97, 98, 99, 100, 101, 102]) f H = thenC call it base (.region s_gnomonlaw25_UpdateCases_r17t8 [] [14, 15, 86, 87, 88, 89, 90, 91, 92, 93, 94, 95, 96, 97, 98, 99, 100, 101, 102]) (opsC [] s_gnomonlaw25_UpdateCases_r17p7 [] (evOps call base [⟨some 97, (.move (.t 3)), some (93, true)⟩] f H)) := (row_op call it base s_gnomonlaw25_UpdateCases_r17p7 s_gnomonlaw25_UpdateCases_r17t8 (kc := []) (by kernel_rfl) f H).trans (by rw [row_ops]; rfl)
theorem s_gnomonlaw25_UpdateCases_r17t8_x (call : CallF) (it : IterF) (base : Nat) (f : List V) (H : Heap) : evC call it base (.region s_gnomonlaw25_UpdateCases_r17t8 [] [14, 15, 86, 87, 88, 89, 90, 91, 92, 93, 94, 95, 96, 97, 98, 99, 100, 101, 102]) f H = thenC call it base (.region s_gnomonlaw25_UpdateCases_r17t9 [] [14, 15, 86, 87, 88, 89, 90, 91, 92, 93, 94, 95, 96, 97, 98, 99, 100, 101, 102]) (opsC [] s_gnomonlaw25_UpdateCases_r17p8 [14] (evOps call base [⟨some 98, (.move (.t 14)), some (93, true)⟩] f H)) := (row_op call it base s_gnomonlaw25_UpdateCases_r17p8 s_gnomonlaw25_UpdateCases_r17t9 (kc := [14]) (by kernel_rfl) f H).trans (by rw [row_ops]; rfl)
theorem s_gnomonlaw25_UpdateCases_r17t9_x (call : CallF) (it : IterF) (base : Nat) (f : List V) (H : Heap) : evC call it base (.region s_gnomonlaw25_UpdateCases_r17t9 [] [14, 15, 86, 87, 88, 89, 90, 91, 92, 93, 94, 95, 96, 97, 98, 99, 100, 101, 102]) f H = thenC call it base (.region s_gnomonlaw25_UpdateCases_r17t10 [] [14, 15, 86, 87, 88, 89, 90, 91, 92, 93, 94, 95, 96, 97, 98, 99, 100, 101, 102]) (opsC [] s_gnomonlaw25_UpdateCases_r17p9 [94, 95, 96, 97, 98] (evOps call base [⟨some 99, (.call (.c (.fn 9 [] [])) [(.t 94), (.t 95), (.t 96), (.t 97), (.t 98)]), some (93, true)⟩] f H)) := (row_op call it base s_gnomonlaw25_UpdateCases_r17p9 s_gnomonlaw25_UpdateCases_r17t10 (kc := [94, 95, 96, 97, 98]) (by kernel_rfl) f H).trans (by rw [row_ops]; rfl)
theorem s_gnomonlaw25_UpdateCases_r17t10_x (call : CallF) (it : IterF) (base : Nat) (f : List V) (H : Heap) : evC call it base (.region s_gnomonlaw25_UpdateCases_r17t10 [] [14, 15, 86, 87, 88, 89, 90, 91, 92, 93, 94, 95, 96, 97, 98, 99, 100, 101, 102]) f H = thenC call it base (.region s_gnomonlaw25_UpdateCases_r17t11 [] [14, 15, 86, 87, 88, 89, 90, 91, 92, 93, 94, 95, 96, 97, 98, 99, 100, 101, 102]) (opsC [] s_gnomonlaw25_UpdateCases_r17p10 [] (evOps call base [⟨some 100, (.move (.t 11)), some (93, true)⟩] f H)) := (row_op call it base s_gnomonlaw25_UpdateCases_r17p10 s_gnomonlaw25_UpdateCases_r17t11 (kc := []) (by kernel_rfl) f H).trans (by rw [row_ops]; rfl)
theorem s_gnomonlaw25_UpdateCases_r17t11_x (call : CallF) (it : IterF) (base : Nat) (f : List V) (H : Heap) : evC call it base (.region s_gnomonlaw25_UpdateCases_r17t11 [] [14, 15, 86, 87, 88, 89, 90, 91, 92, 93, 94, 95, 96, 97, 98, 99, 100, 101, 102]) f H = thenC call it base (.region s_gnomonlaw25_UpdateCases_r17t12 [] [14, 15, 86, 87, 88, 89, 90, 91, 92, 93, 94, 95, 96, 97, 98, 99, 100, 101, 102]) (opsC [] s_gnomonlaw25_UpdateCases_r17p11 [99, 100] (evOps call base [⟨some 101, (.call (.c (.fn 15 [] [])) [(.t 99), (.t 100)]), some (93, true)⟩] f H)) := (row_op call it base s_gnomonlaw25_UpdateCases_r17p11 s_gnomonlaw25_UpdateCases_r17t12 (kc := [99, 100]) (by kernel_rfl) f H).trans (by rw [row_ops]; rfl)
theorem s_gnomonlaw25_UpdateCases_r17t12_tale (fr : List V) (H : Heap) : evTale (symAll s_gnomonlaw25_UpdateCases_r17t12 [14, 15, 86, 87, 88, 89, 90, 91, 92, 93, 94, 95, 96, 97, 98, 99, 100, 101, 102] [103]) [14, 15, 86, 87, 88, 89, 90, 91, 92, 93, 94, 95, 96, 97, 98, 99, 100, 101, 102] fr H = evTale (some (104, [], [(103, (.pick (.t 93) (.op (.un .not (.t 0)) [(.t 101)]) (.c (.s (.bool false)))))])) [14, 15, 86, 87, 88, 89, 90, 91, 92, 93, 94, 95, 96, 97, 98, 99, 100, 101, 102] fr H := tale_row (items := [.sub 0 [1] [93], .sub 0 [] []]) (by kernel_rfl) fr H
theorem s_gnomonlaw25_UpdateCases_r17t12_x (call : CallF) (it : IterF) (base : Nat) (f : List V) (H : Heap) : evC call it base (.region s_gnomonlaw25_UpdateCases_r17t12 [] [14, 15, 86, 87, 88, 89, 90, 91, 92, 93, 94, 95, 96, 97, 98, 99, 100, 101, 102]) f H = segL H (evTale (symAll s_gnomonlaw25_UpdateCases_r17t12 [14, 15, 86, 87, 88, 89, 90, 91, 92, 93, 94, 95, 96, 97, 98, 99, 100, 101, 102] [103]) [14, 15, 86, 87, 88, 89, 90, 91, 92, 93, 94, 95, 96, 97, 98, 99, 100, 101, 102] f H) (origRow call it base s_gnomonlaw25_UpdateCases_r17t12 [14, 15, 86, 87, 88, 89, 90, 91, 92, 93, 94, 95, 96, 97, 98, 99, 100, 101, 102] f H) := row_last call it base _ f H
def s_gnomonlaw25_UpdateCases_r18 : List AOper := [
  ⟨some 8, (.move (.c (.s (.bool false)))), none⟩]
theorem s_gnomonlaw25_UpdateCases_r18_tale (fr : List V) (H : Heap) : evTale (symAll s_gnomonlaw25_UpdateCases_r18 [3, 9, 10, 11, 12, 13, 103] [8]) [3, 9, 10, 11, 12, 13, 103] fr H = evTale (some (9, [], [(8, (.c (.s (.bool false))))])) [3, 9, 10, 11, 12, 13, 103] fr H := tale_row (items := [.cc (.s (.bool false))]) (by kernel_rfl) fr H
def s_gnomonlaw25_UpdateCases_r19 : List AOper := [
  ⟨some 46, (.move (.t 13)), none⟩,
  ⟨some 47, (.bin .add (.t 46) (.c (.s (.int .i64 1)))), none⟩,
  ⟨some 13, (.move (.t 47)), none⟩]
theorem s_gnomonlaw25_UpdateCases_r19_tale (fr : List V) (H : Heap) : evTale (symAll s_gnomonlaw25_UpdateCases_r19 [46, 47, 103] [13]) [46, 47, 103] fr H = evTale (some (48, [], [(13, (.op (.bin .add (.t 0) (.c (.s (.int .i64 1)))) [(.t 13), (.c (.s (.int .i64 1)))]))])) [46, 47, 103] fr H := tale_row (items := [.tt 13, .sub 0 [] [], .sub 0 [] []]) (by kernel_rfl) fr H
def s_gnomonlaw25_UpdateCases_l0_b : ACode :=
  (.seq (.seq (.regionE s_gnomonlaw25_UpdateCases_r9 [44] [45])
  (.cond (.t 45)
  .skip
  (.exit 0)))
  (.seq (.block 1
  (.seq (.regionE s_gnomonlaw25_UpdateCases_r10 [45, 48, 49] [14])
  (.seq (.seq (.region s_gnomonlaw25_UpdateCases_r11 [] [50, 51, 52, 53, 54, 55, 56, 57, 58, 59, 60, 61, 62, 63, 64, 65])
  (.cond (.t 66)
  (.seq (.regionE s_gnomonlaw25_UpdateCases_r12 [3, 9, 10, 11, 12, 13, 14, 66] [8])
  .ret)
  .skip))
  (.seq (.seq (.region s_gnomonlaw25_UpdateCases_r13 [] [66, 67, 68, 69, 70, 71, 72, 73, 74, 75, 76, 77, 78, 79])
  (.cond (.t 80)
  (.seq (.regionE s_gnomonlaw25_UpdateCases_r14 [3, 9, 10, 11, 12, 13, 14, 80] [8])
  .ret)
  .skip))
  (.seq (.region s_gnomonlaw25_UpdateCases_r15 [] [80, 81, 82])
  (.seq (.region s_gnomonlaw25_UpdateCases_r16 [] [83, 84, 85])
  (.seq (.region s_gnomonlaw25_UpdateCases_r17 [] [14, 15, 86, 87, 88, 89, 90, 91, 92, 93, 94, 95, 96, 97, 98, 99, 100, 101, 102])
  (.cond (.t 103)
  (.seq (.regionE s_gnomonlaw25_UpdateCases_r18 [3, 9, 10, 11, 12, 13, 103] [8])
  .ret)
  .skip))))))))
  (.regionE s_gnomonlaw25_UpdateCases_r19 [46, 47, 103] [13])))
def s_gnomonlaw25_UpdateCases_l0 : ACode := s_gnomonlaw25_UpdateCases_l0_b
theorem s_gnomonlaw25_UpdateCases_l0_ev (call : CallF) (it : IterF) (base : Nat) (fr : List V) (H : Heap) : evC call it base s_gnomonlaw25_UpdateCases_l0 fr H = evC call it base s_gnomonlaw25_UpdateCases_l0_b fr H := rfl
def s_gnomonlaw25_UpdateCases_r20t22 : List AOper := [⟨some 130, (.pick (.t 128) (.t 129) (.c (.s (.bool false)))), none⟩, ⟨some 8, (.move (.t 130)), none⟩]
def s_gnomonlaw25_UpdateCases_r20p21 : List AOper := [⟨some 129, (.call (.c (.fn 7 [] [])) []), some (128, true)⟩]
def s_gnomonlaw25_UpdateCases_r20t21 : List AOper := s_gnomonlaw25_UpdateCases_r20p21 ++ s_gnomonlaw25_UpdateCases_r20t22
def s_gnomonlaw25_UpdateCases_r20p20 : List AOper := [⟨some 126, (.pick (.t 116) (.t 125) (.c (.s (.bool false)))), some (106, false)⟩, ⟨some 127, (.pick (.t 106) (.c (.s (.bool true))) (.t 126)), none⟩, ⟨some 128, (.move (.t 127)), none⟩]
def s_gnomonlaw25_UpdateCases_r20t20 : List AOper := s_gnomonlaw25_UpdateCases_r20p20 ++ s_gnomonlaw25_UpdateCases_r20t21
def s_gnomonlaw25_UpdateCases_r20p19 : List AOper := [⟨some 125, (.call (.c (.fn 15 [] [])) [(.t 123), (.t 124)]), some (116, true)⟩]
def s_gnomonlaw25_UpdateCases_r20t19 : List AOper := s_gnomonlaw25_UpdateCases_r20p19 ++ s_gnomonlaw25_UpdateCases_r20t20
def s_gnomonlaw25_UpdateCases_r20p18 : List AOper := [⟨some 124, (.move (.t 11)), some (116, true)⟩]
def s_gnomonlaw25_UpdateCases_r20t18 : List AOper := s_gnomonlaw25_UpdateCases_r20p18 ++ s_gnomonlaw25_UpdateCases_r20t19
def s_gnomonlaw25_UpdateCases_r20p17 : List AOper := [⟨some 123, (.call (.c (.fn 9 [] [])) [(.t 117), (.t 118), (.t 121), (.t 122), (.c (.s (.bool false)))]), some (116, true)⟩]
def s_gnomonlaw25_UpdateCases_r20t17 : List AOper := s_gnomonlaw25_UpdateCases_r20p17 ++ s_gnomonlaw25_UpdateCases_r20t18
def s_gnomonlaw25_UpdateCases_r20p16 : List AOper := [⟨some 122, (.move (.t 3)), some (116, true)⟩]
def s_gnomonlaw25_UpdateCases_r20t16 : List AOper := s_gnomonlaw25_UpdateCases_r20p16 ++ s_gnomonlaw25_UpdateCases_r20t17
def s_gnomonlaw25_UpdateCases_r20p15 : List AOper := [⟨some 121, (.call (.c (.fn 8 [] [])) [(.t 120)]), some (116, true)⟩]
def s_gnomonlaw25_UpdateCases_r20t15 : List AOper := s_gnomonlaw25_UpdateCases_r20p15 ++ s_gnomonlaw25_UpdateCases_r20t16
def s_gnomonlaw25_UpdateCases_r20p14 : List AOper := [⟨some 120, (.buildSl 1 1 [(.s (.int .i64 0))] [(0, (.t 119))]), some (116, true)⟩]
def s_gnomonlaw25_UpdateCases_r20t14 : List AOper := s_gnomonlaw25_UpdateCases_r20p14 ++ s_gnomonlaw25_UpdateCases_r20t15
def s_gnomonlaw25_UpdateCases_r20p13 : List AOper := [⟨some 119, (.move (.t 3)), some (116, true)⟩]
def s_gnomonlaw25_UpdateCases_r20t13 : List AOper := s_gnomonlaw25_UpdateCases_r20p13 ++ s_gnomonlaw25_UpdateCases_r20t14
def s_gnomonlaw25_UpdateCases_r20p12 : List AOper := [⟨some 118, (.move (.t 10)), some (116, true)⟩]
def s_gnomonlaw25_UpdateCases_r20t12 : List AOper := s_gnomonlaw25_UpdateCases_r20p12 ++ s_gnomonlaw25_UpdateCases_r20t13
def s_gnomonlaw25_UpdateCases_r20p11 : List AOper := [⟨some 117, (.move (.t 9)), some (116, true)⟩]
def s_gnomonlaw25_UpdateCases_r20t11 : List AOper := s_gnomonlaw25_UpdateCases_r20p11 ++ s_gnomonlaw25_UpdateCases_r20t12
def s_gnomonlaw25_UpdateCases_r20p10 : List AOper := [⟨some 116, (.move (.t 115)), some (106, false)⟩]
def s_gnomonlaw25_UpdateCases_r20t10 : List AOper := s_gnomonlaw25_UpdateCases_r20p10 ++ s_gnomonlaw25_UpdateCases_r20t11
def s_gnomonlaw25_UpdateCases_r20p9 : List AOper := [⟨some 115, (.call (.c (.fn 15 [] [])) [(.t 113), (.t 114)]), some (106, false)⟩]
def s_gnomonlaw25_UpdateCases_r20t9 : List AOper := s_gnomonlaw25_UpdateCases_r20p9 ++ s_gnomonlaw25_UpdateCases_r20t10
def s_gnomonlaw25_UpdateCases_r20p8 : List AOper := [⟨some 114, (.move (.t 10)), some (106, false)⟩]
def s_gnomonlaw25_UpdateCases_r20t8 : List AOper := s_gnomonlaw25_UpdateCases_r20p8 ++ s_gnomonlaw25_UpdateCases_r20t9
def s_gnomonlaw25_UpdateCases_r20p7 : List AOper := [⟨some 113, (.call (.c (.fn 9 [] [])) [(.t 107), (.t 108), (.t 111), (.t 112), (.c (.s (.bool true)))]), some (106, false)⟩]
def s_gnomonlaw25_UpdateCases_r20t7 : List AOper := s_gnomonlaw25_UpdateCases_r20p7 ++ s_gnomonlaw25_UpdateCases_r20t8
def s_gnomonlaw25_UpdateCases_r20p6 : List AOper := [⟨some 112, (.move (.t 3)), some (106, false)⟩]
def s_gnomonlaw25_UpdateCases_r20t6 : List AOper := s_gnomonlaw25_UpdateCases_r20p6 ++ s_gnomonlaw25_UpdateCases_r20t7
def s_gnomonlaw25_UpdateCases_r20p5 : List AOper := [⟨some 111, (.call (.c (.fn 8 [] [])) [(.t 110)]), some (106, false)⟩]
def s_gnomonlaw25_UpdateCases_r20t5 : List AOper := s_gnomonlaw25_UpdateCases_r20p5 ++ s_gnomonlaw25_UpdateCases_r20t6
def s_gnomonlaw25_UpdateCases_r20p4 : List AOper := [⟨some 110, (.buildSl 1 1 [(.s (.int .i64 0))] [(0, (.t 109))]), some (106, false)⟩]
def s_gnomonlaw25_UpdateCases_r20t4 : List AOper := s_gnomonlaw25_UpdateCases_r20p4 ++ s_gnomonlaw25_UpdateCases_r20t5
def s_gnomonlaw25_UpdateCases_r20p3 : List AOper := [⟨some 109, (.move (.t 3)), some (106, false)⟩]
def s_gnomonlaw25_UpdateCases_r20t3 : List AOper := s_gnomonlaw25_UpdateCases_r20p3 ++ s_gnomonlaw25_UpdateCases_r20t4
def s_gnomonlaw25_UpdateCases_r20p2 : List AOper := [⟨some 108, (.move (.t 10)), some (106, false)⟩]
def s_gnomonlaw25_UpdateCases_r20t2 : List AOper := s_gnomonlaw25_UpdateCases_r20p2 ++ s_gnomonlaw25_UpdateCases_r20t3
def s_gnomonlaw25_UpdateCases_r20p1 : List AOper := [⟨some 107, (.move (.t 9)), some (106, false)⟩]
def s_gnomonlaw25_UpdateCases_r20t1 : List AOper := s_gnomonlaw25_UpdateCases_r20p1 ++ s_gnomonlaw25_UpdateCases_r20t2
def s_gnomonlaw25_UpdateCases_r20p0 : List AOper := [⟨some 104, (.move (.t 3)), none⟩, ⟨some 105, (.bin .lss (.t 104) (.c (.s (.int .i64 0)))), none⟩, ⟨some 106, (.move (.t 105)), none⟩]
def s_gnomonlaw25_UpdateCases_r20 : List AOper := s_gnomonlaw25_UpdateCases_r20p0 ++ s_gnomonlaw25_UpdateCases_r20t1
theorem s_gnomonlaw25_UpdateCases_r20p0_tale (fr : List V) (H : Heap) : evTale (symAll s_gnomonlaw25_UpdateCases_r20p0 [12, 13, 45, 104, 105] [106]) [12, 13, 45, 104, 105] fr H = evTale (some (107, [], [(106, (.op (.bin .lss (.t 0) (.c (.s (.int .i64 0)))) [(.t 3), (.c (.s (.int .i64 0)))]))])) [12, 13, 45, 104, 105] fr H := tale_row (items := [.tt 3, .sub 0 [] [], .sub 0 [] []]) (by kernel_rfl) fr H
theorem s_gnomonlaw25_UpdateCases_r20_x (call : CallF) (it : IterF) (base : Nat) (f : List V) (H : Heap) : evC call it base (.region s_gnomonlaw25_UpdateCases_r20 [] [3, 9, 10, 11, 12, 13, 45, 104, 105, 106, 107, 108, 109, 110, 111, 112, 113, 114, 115, 116, 117, 118, 119, 120, 121, 122, 123, 124, 125, 126, 127, 128, 129, 130]) f H = segC call it base s_gnomonlaw25_UpdateCases_r20t1 [3, 9, 10, 11, 12, 13, 45, 104, 105, 106, 107, 108, 109, 110, 111, 112, 113, 114, 115, 116, 117, 118, 119, 120, 121, 122, 123, 124, 125, 126, 127, 128, 129, 130] H (evTale (symAll s_gnomonlaw25_UpdateCases_r20p0 [12, 13, 45, 104, 105] [106]) [12, 13, 45, 104, 105] f H) (origRow call it base s_gnomonlaw25_UpdateCases_r20 [3, 9, 10, 11, 12, 13, 45, 104, 105, 106, 107, 108, 109, 110, 111, 112, 113, 114, 115, 116, 117, 118, 119, 120, 121, 122, 123, 124, 125, 126, 127, 128, 129, 130] f H) := row_seg call it base s_gnomonlaw25_UpdateCases_r20p0 s_gnomonlaw25_UpdateCases_r20t1 (by kernel_rfl) f H
theorem s_gnomonlaw25_UpdateCases_r20t1_x (call : CallF) (it : IterF) (base : Nat) (f : List V) (H : Heap) : evC call it base (.region s_gnomonlaw25_UpdateCases_r20t1 [] [3, 9, 10, 11, 12, 13, 45, 104, 105, 106, 107, 108, 109, 110, 111, 112, 113, 114, 115, 116, 117, 118, 119, 120, 121, 122, 123, 124, 125, 126, 127, 128, 129, 130]) f H = thenC call it base (.region s_gnomonlaw25_UpdateCases_r20t2 [] [3, 9, 10, 11, 12, 13, 45, 104, 105, 106, 107, 108, 109, 110, 111, 112, 113, 114, 115, 116, 117, 118, 119, 120, 121, 122, 123, 124, 125, 126, 127, 128, 129, 130]) (opsC [] s_gnomonlaw25_UpdateCases_r20p1 [] (evOps call base [⟨some 107, (.move (.t 9)), some (106, false)⟩] f H)) := (row_op call it base s_gnomonlaw25_UpdateCases_r20p1 s_gnomonlaw25_UpdateCases_r20t2 (kc := []) (by kernel_rfl) f H).trans (by rw [row_ops]; rfl)
theorem s_gnomonlaw25_UpdateCases_r20t2_x (call : CallF) (it : IterF) (base : Nat) (f : List V) (H : Heap) : evC call it base (.region s_gnomonlaw25_UpdateCases_r20t2 [] [3, 9, 10, 11, 12, 13, 45, 104, 105, 106, 107, 108, 109, 110, 111, 112, 113, 114, 115, 116, 117, 118, 119, 120, 121, 122, 123, 124, 125, 126, 127, 128, 129, 130]) f H = thenC call it base (.region s_gnomonlaw25_UpdateCases_r20t3 [] [3, 9, 10, 11, 12, 13, 45, 104, 105, 106, 107, 108, 109, 110, 111, 112, 113, 114, 115, 116, 117, 118, 119, 120, 121, 122, 123, 124, 125, 126, 127, 128, 129, 130]) (opsC [] s_gnomonlaw25_UpdateCases_r20p2 [] (evOps call base [⟨some 108, (.move (.t 10)), some (106, false)⟩] f H)) := (row_op call it base s_gnomonlaw25_UpdateCases_r20p2 s_gnomonlaw25_UpdateCases_r20t3 (kc := []) (by kernel_rfl) f H).trans (by rw [row_ops]; rfl)
theorem s_gnomonlaw25_UpdateCases_r20t3_x (call : CallF) (it : IterF) (base : Nat) (f : List V) (H : Heap) : evC call it base (.region s_gnomonlaw25_UpdateCases_r20t3 [] [3, 9, 10, 11, 12, 13, 45, 104, 105, 106, 107, 108, 109, 110, 111, 112, 113, 114, 115, 116, 117, 118, 119, 120, 121, 122, 123, 124, 125, 126, 127, 128, 129, 130]) f H = thenC call it base (.region s_gnomonlaw25_UpdateCases_r20t4 [] [3, 9, 10, 11, 12, 13, 45, 104, 105, 106, 107, 108, 109, 110, 111, 112, 113, 114, 115, 116, 117, 118, 119, 120, 121, 122, 123, 124, 125, 126, 127, 128, 129, 130]) (opsC [] s_gnomonlaw25_UpdateCases_r20p3 [] (evOps call base [⟨some 109, (.move (.t 3)), some (106, false)⟩] f H)) := (row_op call it base s_gnomonlaw25_UpdateCases_r20p3 s_gnomonlaw25_UpdateCases_r20t4 (kc := []) (by kernel_rfl) f H).trans (by rw [row_ops]; rfl)
theorem s_gnomonlaw25_UpdateCases_r20t4_x (call : CallF) (it : IterF) (base : Nat) (f : List V) (H : Heap) : evC call it base (.region s_gnomonlaw25_UpdateCases_r20t4 [] [3, 9, 10, 11, 12, 13, 45, 104, 105, 106, 107, 108, 109, 110, 111, 112, 113, 114, 115, 116, 117, 118, 119, 120, 121, 122, 123, 124, 125, 126, 127, 128, 129, 130]) f H = thenC call it base (.region s_gnomonlaw25_UpdateCases_r20t5 [] [3, 9, 10, 11, 12, 13, 45, 104, 105, 106, 107, 108, 109, 110, 111, 112, 113, 114, 115, 116, 117, 118, 119, 120, 121, 122, 123, 124, 125, 126, 127, 128, 129, 130]) (opsC [] s_gnomonlaw25_UpdateCases_r20p4 [109] (evOps call base [⟨some 110, (.buildSl 1 1 [(.s (.int .i64 0))] [(0, (.t 109))]), some (106, false)⟩] f H)) := (row_op call it base s_gnomonlaw25_UpdateCases_r20p4 s_gnomonlaw25_UpdateCases_r20t5 (kc := [109]) (by kernel_rfl) f H).trans (by rw [row_ops]; rfl)
theorem s_gnomonlaw25_UpdateCases_r20t5_x (call : CallF) (it : IterF) (base : Nat) (f : List V) (H : Heap) : evC call it base (.region s_gnomonlaw25_UpdateCases_r20t5 [] [3, 9, 10, 11, 12, 13, 45, 104, 105, 106, 107, 108, 109, 110, 111, 112, 113, 114, 115, 116, 117, 118, 119, 120, 121, 122, 123, 124, 125, 126, 127, 128, 129, 130]) f H = thenC call it base (.region s_gnomonlaw25_UpdateCases_r20t6 [] [3, 9, 10, 11, 12, 13, 45, 104, 105, 106, 107, 108, 109, 110, 111, 112, 113, 114, 115, 116, 117, 118, 119, 120, 121, 122, 123, 124, 125, 126, 127, 128, 129, 130]) (opsC [] s_gnomonlaw25_UpdateCases_r20p5 [110] (evOps call base [⟨some 111, (.call (.c (.fn 8 [] [])) [(.t 110)]), some (106, false)⟩] f H)) := (row_op call it base s_gnomonlaw25_UpdateCases_r20p5 s_gnomonlaw25_UpdateCases_r20t6 (kc := [110]) (by kernel_rfl) f H).trans (by rw [row_ops]; rfl)
theorem s_gnomonlaw25_UpdateCases_r20t6_x (call : CallF) (it : IterF) (base : Nat) (f : List V) (H : Heap) : evC call it base (.region s_gnomonlaw25_UpdateCases_r20t6 [] [3, 9, 10, 11, 12, 13, 45, 104, 105, 106, 107, 108, 109, 110, 111, 112, 113, 114, 115, 116, 117, 118, 119, 120, 121, 122, 123, 124, 125, 126, 127, 128, 129, 130]) f H = thenC call it base (.region s_gnomonlaw25_UpdateCases_r20t7 [] [3, 9, 10, 11, 12, 13, 45, 104, 105, 106, 107, 108, 109, 110, 111, 112, 113, 114, 115, 116, 117, 118, 119, 120, 121, 122, 123, 124, 125, 126, 127, 128, 129, 130]) (opsC [] s_gnomonlaw25_UpdateCases_r20p6 [] (evOps call base [⟨some 112, (.move (.t 3)), some (106, false)⟩] f H)) := (row_op call it base s_gnomonlaw25_UpdateCases_r20p6 s_gnomonlaw25_UpdateCases_r20t7 (kc := []) (by kernel_rfl) f H).trans (by rw [row_ops]; rfl)
theorem s_gnomonlaw25_UpdateCases_r20t7_x (call : CallF) (it : IterF) (base : Nat) (f : List V) (H : Heap) : evC call it base (.region s_gnomonlaw25_UpdateCases_r20t7 [] [3, 9, 10, 11, 12, 13, 45, 104, 105, 106, 107, 108, 109, 110, 111, 112, 113, 114, 115, 116, 117, 118, 119, 120, 121, 122, 123, 124, 125, 126, 127, 128, 129, 130]) f H = thenC call it base (.region s_gnomonlaw25_UpdateCases_r20t8 [] [3, 9, 10, 11, 12, 13, 45, 104, 105, 106, 107, 108, 109, 110, 111, 112, 113, 114, 115, 116, 117, 118, 119, 120, 121, 122, 123, 124, 125, 126, 127, 128, 129, 130]) (opsC [] s_gnomonlaw25_UpdateCases_r20p7 [107, 108, 111, 112] (evOps call base [⟨some 113, (.call (.c (.fn 9 [] [])) [(.t 107), (.t 108), (.t 111), (.t 112), (.c (.s (.bool true)))]), some (106, false)⟩] f H)) := (row_op call it base s_gnomonlaw25_UpdateCases_r20p7 s_gnomonlaw25_UpdateCases_r20t8 (kc := [107, 108, 111, 112]) (by kernel_rfl) f H).trans (by rw [row_ops]; rfl)
theorem s_gnomonlaw25_UpdateCases_r20t8_x (call : CallF) (it : IterF) (base : Nat) (f : List V) (H : Heap) : evC call it base (.region s_gnomonlaw25_UpdateCases_r20t8 [] [3, 9, 10, 11, 12, 13, 45, 104, 105, 106, 107, 108, 109, 110, 111, 112, 113, 114, 115, 116, 117, 118, 119, 120, 121, 122, 123, 124, 125, 126, 127, 128, 129, 130]) f H = thenC call it base (.region s_gnomonlaw25_UpdateCases_r20t9 [] [3, 9, 10, 11, 12, 13, 45, 104, 105, 106, 107, 108, 109, 110, 111, 112, 113, 114, 115, 116, 117, 118, 119, 120, 121, 122, 123, 124, 125, 126, 127, 128, 129, 130]) (opsC [] s_gnomonlaw25_UpdateCases_r20p8 [] (evOps call base [⟨some 114, (.move (.t 10)), some (106, false)⟩] f H)) := (row_op call it base s_gnomonlaw25_UpdateCases_r20p8 s_gnomonlaw25_UpdateCases_r20t9 (kc := []) (by kernel_rfl) f H).trans (by rw [row_ops]; rfl)
theorem s_gnomonlaw25_UpdateCases_r20t9_x (call : CallF) (it : IterF) (base : Nat) (f : List V) (H : Heap) : evC call it base (.region s_gnomonlaw25_UpdateCases_r20t9 [] [3, 9, 10, 11, 12, 13, 45, 104, 105, 106, 107, 108, 109, 110, 111, 112, 113, 114, 115, 116, 117, 118, 119, 120, 121, 122, 123, 124, 125, 126, 127, 128, 129, 130]) f H = thenC call it base (.region s_gnomonlaw25_UpdateCases_r20t10 [] [3, 9, 10, 11, 12, 13, 45, 104, 105, 106, 107, 108, 109, 110, 111, 112, 113, 114, 115, 116, 117, 118, 119, 120, 121, 122, 123, 124, 125, 126, 127, 128, 129, 130]) (opsC [] s_gnomonlaw25_UpdateCases_r20p9 [113, 114] (evOps call base [⟨some 115, (.call (.c (.fn 15 [] [])) [(.t 113), (.t 114)]), some (106, false)⟩] f H)) := (row_op call it base s_gnomonlaw25_UpdateCases_r20p9 s_gnomonlaw25_UpdateCases_r20t10 (kc := [113, 114]) (by kernel_rfl) f H).trans (by rw [row_ops]; rfl)
theorem s_gnomonlaw25_UpdateCases_r20t10_x (call : CallF) (it : IterF) (base : Nat) (f : List V) (H : Heap) : evC call it base (.region s_gnomonlaw25_UpdateCases_r20t10 [] [3, 9, 10, 11, 12, 13, 45, 104, 105, 106, 107, 108, 109, 110, 111, 112, 113, 114, 115, 116, 117, 118, 119, 120, 121, 122, 123, 124, 125, 126, 127, 128, 129, 130]) f H = thenC call it base (.region s_gnomonlaw25_UpdateCases_r20t11 [] [3, 9, 10, 11, 12, 13, 45, 104, 105, 106, 107, 108, 109, 110, 111, 112, 113, 114, 115, 116, 117, 118, 119, 120, 121, 122, 123, 124, 125, 126, 127, 128, 129, 130]) (opsC [] s_gnomonlaw25_UpdateCases_r20p10 [115] (evOps call base [⟨some 116, (.move (.t 115)), some (106, false)⟩] f H)) := (row_op call it base s_gnomonlaw25_UpdateCases_r20p10 s_gnomonlaw25_UpdateCases_r20t11 (kc := [115]) (by kernel_rfl) f H).trans (by rw [row_ops]; rfl)
theorem s_gnomonlaw25_UpdateCases_r20t11_x (call : CallF) (it : IterF) (base : Nat) (f : List V) (H : Heap) : evC call it base (.region s_gnomonlaw25_UpdateCases_r20t11 [] [3, 9, 10, 11, 12, 13, 45, 104, 105, 106, 107, 108, 109, 110, 111, 112, 113, 114, 115, 116, 117, 118, 119, 120, 121, 122, 123, 124, 125, 126, 127, 128, 129, 130]) f H = thenC call it base (.region s_gnomonlaw25_UpdateCases_r20t12 [] [3, 9, 10, 11, 12, 13, 45, 104, 105, 106, 107, 108, 109, 110, 111, 112, 113, 114, 115, 116, 117, 118, 119, 120, 121, 122, 123, 124, 125, 126, 127, 128, 129, 130]) (opsC [] s_gnomonlaw25_UpdateCases_r20p11 [9] (evOps call base [⟨some 117, (.move (.t 9)), some (116, true)⟩] f H)) := (row_op call it base s_gnomonlaw25_UpdateCases_r20p11 s_gnomonlaw25_UpdateCases_r20t12 (kc := [9]) (by kernel_rfl) f H).trans (by rw [row_ops]; rfl)
theorem s_gnomonlaw25_UpdateCases_r20t12_x (call : CallF) (it : IterF) (base : Nat) (f : List V) (H : Heap) : evC call it base (.region s_gnomonlaw25_UpdateCases_r20t12 [] [3, 9, 10, 11, 12, 13, 45, 104, 105, 106, 107, 108, 109, 110, 111, 112, 113, 114, 115, 116, 117, 118, 119, 120, 121, 122, 123, 124, 125, 126, 127, 128, 129, 130]) f H = thenC call it base (.region s_gnomonlaw25_UpdateCases_r20t13 [] [3, 9, 10, 11, 12, 13, 45, 104, 105, 106, 107, 108, 109, 110, 111, 112, 113, 114, 115, 116, 117, 118, 119, 120, 121, 122, 123, 124, 125, 126, 127, 128, 129, 130]) (opsC [] s_gnomonlaw25_UpdateCases_r20p12 [10] (evOps call base [⟨some 118, (.move (.t 10)), some (116, true)⟩] f H)) := (row_op call it base s_gnomonlaw25_UpdateCases_r20p12 s_gnomonlaw25_UpdateCases_r20t13 (kc := [10]) (by kernel_rfl) f H).trans (by rw [row_ops]; rfl)
theorem s_gnomonlaw25_UpdateCases_r20t13_x (call : CallF) (it : IterF) (base : Nat) (f : List V) (H : Heap) : evC call it base (.region s_gnomonlaw25_UpdateCases_r20t13 [] [3, 9, 10, 11, 12, 13, 45, 104, 105, 106, 107, 108, 109, 110, 111, 112, 113, 114, 115, 116, 117, 118, 119, 120, 121, 122, 123, 124, 125, 126, 127, 128, 129, 130]) f H = thenC call it base (.region s_gnomonlaw25_UpdateCases_r20t14 [] [3, 9, 10, 11, 12, 13, 45, 104, 105, 106, 107, 108, 109, 110, 111, 112, 113, 114, 115, 116, 117, 118, 119, 120, 121, 122, 123, 124, 125, 126, 127, 128, 129, 130]) (opsC [] s_gnomonlaw25_UpdateCases_r20p13 [] (evOps call base [⟨some 119, (.move (.t 3)), some (116, true)⟩] f H)) := (row_op call it base s_gnomonlaw25_UpdateCases_r20p13 s_gnomonlaw25_UpdateCases_r20t14 (kc := []) (by kernel_rfl) f H).trans (by rw [row_ops]; rfl)
theorem s_gnomonlaw25_UpdateCases_r20t14_x (call : CallF) (it : IterF) (base : Nat) (f : List V) (H : Heap) : evC call it base (.region s_gnomonlaw25_UpdateCases_r20t14 [] [3, 9, 10, 11, 12, 13, 45, 104, 105, 106, 107, 108, 109, 110, 111, 112, 113, 114, 115, 116, 117, 118, 119, 120, 121, 122, 123, 124, 125, 126, 127, 128, 129, 130]) f H = thenC call it base (.region s_gnomonlaw25_UpdateCases_r20t15 [] [3, 9, 10, 11, 12, 13, 45, 104, 105, 106, 107, 108, 109, 110, 111, 112, 113, 114, 115, 116, 117, 118, 119, 120, 121, 122, 123, 124, 125, 126, 127, 128, 129, 130]) (opsC [] s_gnomonlaw25_UpdateCases_r20p14 [119] (evOps call base [⟨some 120, (.buildSl 1 1 [(.s (.int .i64 0))] [(0, (.t 119))]), some (116, true)⟩] f H)) := (row_op call it base s_gnomonlaw25_UpdateCases_r20p14 s_gnomonlaw25_UpdateCases_r20t15 (kc := [119]) (by kernel_rfl) f H).trans (by rw [row_ops]; rfl)
theorem s_gnomonlaw25_UpdateCases_r20t15_x (call : CallF) (it : IterF) (base : Nat) (f : List V) (H : Heap) : evC call it base (.region s_gnomonlaw25_UpdateCases_r20t15 [] [3, 9, 10, 11, 12, 13, 45, 104, 105, 106, 107, 108, 109, 110, 111, 112, 113, 114, 115, 116, 117, 118, 119, 120, 121, 122, 123, 124, 125, 126, 127, 128, 129, 130]) f H = thenC call it base (.region s_gnomonlaw25_UpdateCases_r20t16 [] [3, 9, 10, 11, 12, 13, 45, 104, 105, 106, 107, 108, 109, 110, 111, 112, 113, 114, 115, 116, 117, 118, 119, 120, 121, 122, 123, 124, 125, 126, 127, 128, 129, 130]) (opsC [] s_gnomonlaw25_UpdateCases_r20p15 [120] (evOps call base [⟨some 121, (.call (.c (.fn 8 [] [])) [(.t 120)]), some (116, true)⟩] f H)) := (row_op call it base s_gnomonlaw25_UpdateCases_r20p15 s_gnomonlaw25_UpdateCases_r20t16 (kc := [120]) (by kernel_rfl) f H).trans (by rw [row_ops]; rfl)
theorem s_gnomonlaw25_UpdateCases_r20t16_x (call : CallF) (it : IterF) (base : Nat) (f : List V) (H : Heap) : evC call it base (.region s_gnomonlaw25_UpdateCases_r20t16 [] [3, 9, 10, 11, 12, 13, 45, 104, 105, 106, 107, 108, 109, 110, 111, 112, 113, 114, 115, 116, 117, 118, 119, 120, 121, 122, 123, 124, 125, 126, 127, 128, 129, 130]) f H = thenC call it base (.region s_gnomonlaw25_UpdateCases_r20t17 [] [3, 9, 10, 11, 12, 13, 45, 104, 105, 106, 107, 108, 109, 110, 111, 112, 113, 114, 115, 116, 117, 118, 119, 120, 121, 122, 123, 124, 125, 126, 127, 128, 129, 130]) (opsC [] s_gnomonlaw25_UpdateCases_r20p16 [3] (evOps call base [⟨some 122, (.move (.t 3)), some (116, true)⟩] f H)) := (row_op call it base s_gnomonlaw25_UpdateCases_r20p16 s_gnomonlaw25_UpdateCases_r20t17 (kc := [3]) (by kernel_rfl) f H).trans (by rw [row_ops]; rfl)
theorem s_gnomonlaw25_UpdateCases_r20t17_x (call : CallF) (it : IterF) (base : Nat) (f : List V) (H : Heap) : evC call it base (.region s_gnomonlaw25_UpdateCases_r20t17 [] [3, 9, 10, 11, 12, 13, 45, 104, 105, 106, 107, 108, 109, 110, 111, 112, 113, 114, 115, 116, 117, 118, 119, 120, 121, 122, 123, 124, 125, 126, 127, 128, 129, 130]) f H = thenC call it base (.region s_gnomonlaw25_UpdateCases_r20t18 [] [3, 9, 10, 11, 12, 13, 45, 104, 105, 106, 107, 108, 109, 110, 111, 112, 113, 114, 115, 116, 117, 118, 119, 120, 121, 122, 123, 124, 125, 126, 127, 128, 129, 130]) (opsC [] s_gnomonlaw25_UpdateCases_r20p17 [117, 118, 121, 122] (evOps call base [⟨some 123, (.call (.c (.fn 9 [] [])) [(.t 117), (.t 118), (.t 121), (.t 122), (.c (.s (.bool false)))]), some (116, true)⟩] f H)) := (row_op call it base s_gnomonlaw25_UpdateCases_r20p17 s_gnomonlaw25_UpdateCases_r20t18 (kc := [117, 118, 121, 122]) (by kernel_rfl) f H).trans (by rw [row_ops]; rfl)
theorem s_gnomonlaw25_UpdateCases_r20t18_x (call : CallF) (it : IterF) (base : Nat) (f : List V) (H : Heap) : evC call it base (.region s_gnomonlaw25_UpdateCases_r20t18 [] [3, 9, 10, 11, 12, 13, 45, 104, 105, 106, 107, 108, 109, 110, 111, 112, 113, 114, 115, 116, 117, 118, 119, 120, 121, 122, 123, 124, 125, 126, 127, 128, 129, 130]) f H = thenC call it base (.region s_gnomonlaw25_UpdateCases_r20t19 [] [3, 9, 10, 11, 12, 13, 45, 104, 105, 106, 107, 108, 109, 110, 111, 112, 113, 114, 115, 116, 117, 118, 119, 120, 121, 122, 123, 124, 125, 126, 127, 128, 129, 130]) (opsC [] s_gnomonlaw25_UpdateCases_r20p18 [11] (evOps call base [⟨some 124, (.move (.t 11)), some (116, true)⟩] f H)) := (row_op call it base s_gnomonlaw25_UpdateCases_r20p18 s_gnomonlaw25_UpdateCases_r20t19 (kc := [11]) (by kernel_rfl) f H).trans (by rw [row_ops]; rfl)
theorem s_gnomonlaw25_UpdateCases_r20t19_x (call : CallF) (it : IterF) (base : Nat) (f : List V) (H : Heap) : evC call it base (.region s_gnomonlaw25_UpdateCases_r20t19 [] [3, 9, 10, 11, 12, 13, 45, 104, 105, 106, 107, 108, 109, 110, 111, 112, 113, 114, 115, 116, 117, 118, 119, 120, 121, 122, 123, 124, 125, 126, 127, 128, 129, 130]) f H = thenC call it base (.region s_gnomonlaw25_UpdateCases_r20t20 [] [3, 9, 10, 11, 12, 13, 45, 104, 105, 106, 107, 108, 109, 110, 111, 112, 113, 114, 115, 116, 117, 118, 119, 120, 121, 122, 123, 124, 125, 126, 127, 128, 129, 130]) (opsC [] s_gnomonlaw25_UpdateCases_r20p19 [123, 124] (evOps call base [⟨some 125, (.call (.c (.fn 15 [] [])) [(.t 123), (.t 124)]), some (116, true)⟩] f H)) := (row_op call it base s_gnomonlaw25_UpdateCases_r20p19 s_gnomonlaw25_UpdateCases_r20t20 (kc := [123, 124]) (by kernel_rfl) f H).trans (by rw [row_ops]; rfl)
theorem s_gnomonlaw25_UpdateCases_r20p20_tale (fr : List V) (H : Heap) : evTale (symAll s_gnomonlaw25_UpdateCases_r20p20 [106, 116, 125, 126, 127] [128]) [106, 116, 125, 126, 127] fr H = evTale (some (129, [], [(128, (.pick (.t 106) (.c (.s (.bool true))) (.pick (.t 116) (.t 125) (.c (.s (.bool false))))))])) [106, 116, 125, 126, 127] fr H := tale_row (items := [.sub 0 [2] [106], .sub 0 [] [], .sub 0 [] []]) (by kernel_rfl) fr H
theorem s_gnomonlaw25_UpdateCases_r20t20_x (call : CallF) (it : IterF) (base : Nat) (f : List V) (H : Heap) : evC call it base (.region s_gnomonlaw25_UpdateCases_r20t20 [] [3, 9, 10, 11, 12, 13, 45, 104, 105, 106, 107, 108, 109, 110, 111, 112, 113, 114, 115, 116, 117, 118, 119, 120, 121, 122, 123, 124, 125, 126, 127, 128, 129, 130]) f H = segC call it base s_gnomonlaw25_UpdateCases_r20t21 [3, 9, 10, 11, 12, 13, 45, 104, 105, 106, 107, 108, 109, 110, 111, 112, 113, 114, 115, 116, 117, 118, 119, 120, 121, 122, 123, 124, 125, 126, 127, 128, 129, 130] H (evTale (symAll s_gnomonlaw25_UpdateCases_r20p20 [106, 116, 125, 126, 127] [128]) [106, 116, 125, 126, 127] f H) (origRow call it base s_gnomonlaw25_UpdateCases_r20t20 [3, 9, 10, 11, 12, 13, 45, 104, 105, 106, 107, 108, 109, 110, 111, 112, 113, 114, 115, 116, 117, 118, 119, 120, 121, 122, 123, 124, 125, 126, 127, 128, 129, 130] f H) := row_seg call it base s_gnomonlaw25_UpdateCases_r20p20 s_gnomonlaw25_UpdateCases_r20t21 (by kernel_rfl) f H
theorem s_gnomonlaw25_UpdateCases_r20t21_x (call : CallF) (it : IterF) (base : Nat) (f : List V) (H : Heap) : evC call it base (.region s_gnomonlaw25_UpdateCases_r20t21 [] [3, 9, 10, 11, 12, 13, 45, 104, 105, 106, 107, 108, 109, 110, 111, 112, 113, 114, 115, 116, 117, 118, 119, 120, 121, 122, 123, 124, 125, 126, 127, 128, 129, 130]) f H = thenC call it base (.region s_gnomonlaw25_UpdateCases_r20t22 [] [3, 9, 10, 11, 12, 13, 45, 104, 105, 106, 107, 108, 109, 110, 111, 112, 113, 114, 115, 116, 117, 118, 119, 120, 121, 122, 123, 124, 125, 126, 127, 128, 129, 130]) (opsC [] s_gnomonlaw25_UpdateCases_r20p21 [] (evOps call base [⟨some 129, (.call (.c (.fn 7 [] [])) []), some (128, true)⟩] f H)) := (row_op call it base s_gnomonlaw25_UpdateCases_r20p21 s_gnomonlaw25_UpdateCases_r20t22 (kc := []) (by kernel_rfl) f H).trans (by rw [row_ops]; rfl)
theorem s_gnomonlaw25_UpdateCases_r20t22_tale (fr : List V) (H : Heap) : evTale (symAll s_gnomonlaw25_UpdateCases_r20t22 [3, 9, 10, 11, 12, 13, 45, 104, 105, 106, 107, 108, 109, 110, 111, 112, 113, 114, 115, 116, 117, 118, 119, 120, 121, 122, 123, 124, 125, 126, 127, 128, 129, 130] [8]) [3, 9, 10, 11, 12, 13, 45, 104, 105, 106, 107, 108, 109, 110, 111, 112, 113, 114, 115, 116, 117, 118, 119, 120, 121, 122, 123, 124, 125, 126, 127, 128, 129, 130] fr H = evTale (some (131, [], [(8, (.pick (.t 128) (.t 129) (.c (.s (.bool false)))))])) [3, 9, 10, 11, 12, 13, 45, 104, 105, 106, 107, 108, 109, 110, 111, 112, 113, 114, 115, 116, 117, 118, 119, 120, 121, 122, 123, 124, 125, 126, 127, 128, 129, 130] fr H := tale_row (items := [.sub 0 [] [], .sub 0 [] []]) (by kernel_rfl) fr H
theorem s_gnomonlaw25_UpdateCases_r20t22_x (call : CallF) (it : IterF) (base : Nat) (f : List V) (H : Heap) : evC call it base (.region s_gnomonlaw25_UpdateCases_r20t22 [] [3, 9, 10, 11, 12, 13, 45, 104, 105, 106, 107, 108, 109, 110, 111, 112, 113, 114, 115, 116, 117, 118, 119, 120, 121, 122, 123, 124, 125, 126, 127, 128, 129, 130]) f H = segL H (evTale (symAll s_gnomonlaw25_UpdateCases_r20t22 [3, 9, 10, 11, 12, 13, 45, 104, 105, 106, 107, 108, 109, 110, 111, 112, 113, 114, 115, 116, 117, 118, 119, 120, 121, 122, 123, 124, 125, 126, 127, 128, 129, 130] [8]) [3, 9, 10, 11, 12, 13, 45, 104, 105, 106, 107, 108, 109, 110, 111, 112, 113, 114, 115, 116, 117, 118, 119, 120, 121, 122, 123, 124, 125, 126, 127, 128, 129, 130] f H) (origRow call it base s_gnomonlaw25_UpdateCases_r20t22 [3, 9, 10, 11, 12, 13, 45, 104, 105, 106, 107, 108, 109, 110, 111, 112, 113, 114, 115, 116, 117, 118, 119, 120, 121, 122, 123, 124, 125, 126, 127, 128, 129, 130] f H) := row_last call it base _ f H
def s_gnomonlaw25_UpdateCases : ACFun := { ntmps := 131, results := [(.tmp 8)], body :=
  (.seq (.regionE s_gnomonlaw25_UpdateCases_r0 s_gnomonlaw25_UpdateCases_r0_k [])
  (.seq (.seq (.regionE s_gnomonlaw25_UpdateCases_r1 [16, 17, 18, 19, 20, 21, 22, 23, 24, 25, 26, 27] [28])
  (.cond (.t 28)
  (.seq (.region s_gnomonlaw25_UpdateCases_r2 [] [0, 1, 2, 3, 28, 29])
  .ret)
  .skip))
  (.seq (.region s_gnomonlaw25_UpdateCases_r3 [] [0, 1, 28, 30, 31, 32, 33])
  (.seq (.region s_gnomonlaw25_UpdateCases_r4 [] [34, 35])
  (.seq (.region s_gnomonlaw25_UpdateCases_r5 [] [36, 37, 38])
  (.seq (.region s_gnomonlaw25_UpdateCases_r6 [] [2, 39, 40])
  (.seq (.region s_gnomonlaw25_UpdateCases_r7 [] [41, 42, 43])
  (.seq (.seq (.regionE s_gnomonlaw25_UpdateCases_r8 [] [13])
  (.block 0
  (.loop [] s_gnomonlaw25_UpdateCases_l0)))
  (.seq (.region s_gnomonlaw25_UpdateCases_r20 [] [3, 9, 10, 11, 12, 13, 45, 104, 105, 106, 107, 108, 109, 110, 111, 112, 113, 114, 115, 116, 117, 118, 119, 120, 121, 122, 123, 124, 125, 126, 127, 128, 129, 130])
  .ret))))))))) }
def a_gnomonlaw25_UpdateCases := And.intro @s_gnomonlaw25_UpdateCases_r0_tale (And.intro @s_gnomonlaw25_UpdateCases_r0_kT (And.intro @s_gnomonlaw25_UpdateCases_r0_kA0 (And.intro @s_gnomonlaw25_UpdateCases_r0_kA1 (And.intro @s_gnomonlaw25_UpdateCases_r0_kA2 (And.intro @s_gnomonlaw25_UpdateCases_r0_kA3 (And.intro @s_gnomonlaw25_UpdateCases_r1_tale (And.intro @s_gnomonlaw25_UpdateCases_r2_x (And.intro @s_gnomonlaw25_UpdateCases_r2t1_tale (And.intro @s_gnomonlaw25_UpdateCases_r2t1_x (And.intro @s_gnomonlaw25_UpdateCases_r3p0_tale (And.intro @s_gnomonlaw25_UpdateCases_r3_x (And.intro @s_gnomonlaw25_UpdateCases_r3t1_x (And.intro @s_gnomonlaw25_UpdateCases_r3p2_tale (And.intro @s_gnomonlaw25_UpdateCases_r3t2_x (And.intro @s_gnomonlaw25_UpdateCases_r3t3_x (And.intro @s_gnomonlaw25_UpdateCases_r3t4_tale (And.intro @s_gnomonlaw25_UpdateCases_r3t4_x (And.intro @s_gnomonlaw25_UpdateCases_r4p0_tale (And.intro @s_gnomonlaw25_UpdateCases_r4_x (And.intro @s_gnomonlaw25_UpdateCases_r4t1_x (And.intro @s_gnomonlaw25_UpdateCases_r4t2_tale (And.intro @s_gnomonlaw25_UpdateCases_r4t2_x (And.intro @s_gnomonlaw25_UpdateCases_r5p0_tale (And.intro @s_gnomonlaw25_UpdateCases_r5_x (And.intro @s_gnomonlaw25_UpdateCases_r5t1_x (And.intro @s_gnomonlaw25_UpdateCases_r6p0_tale (And.intro @s_gnomonlaw25_UpdateCases_r6_x (And.intro @s_gnomonlaw25_UpdateCases_r6t1_x (And.intro @s_gnomonlaw25_UpdateCases_r6t2_tale (And.intro @s_gnomonlaw25_UpdateCases_r6t2_x (And.intro @s_gnomonlaw25_UpdateCases_r7p0_tale (And.intro @s_gnomonlaw25_UpdateCases_r7_x (And.intro @s_gnomonlaw25_UpdateCases_r7t1_x (And.intro @s_gnomonlaw25_UpdateCases_r8_tale (And.intro @s_gnomonlaw25_UpdateCases_r9_tale (And.intro @s_gnomonlaw25_UpdateCases_r10_tale (And.intro @s_gnomonlaw25_UpdateCases_r11p0_tale (And.intro @s_gnomonlaw25_UpdateCases_r11_x (And.intro @s_gnomonlaw25_UpdateCases_r11t1_x (And.intro @s_gnomonlaw25_UpdateCases_r11p2_tale (And.intro @s_gnomonlaw25_UpdateCases_r11t2_x (And.intro @s_gnomonlaw25_UpdateCases_r11t3_x (And.intro @s_gnomonlaw25_UpdateCases_r11t4_x (And.intro @s_gnomonlaw25_UpdateCases_r11p5_tale (And.intro @s_gnomonlaw25_UpdateCases_r11t5_x (And.intro @s_gnomonlaw25_UpdateCases_r11t6_x (And.intro @s_gnomonlaw25_UpdateCases_r11t7_x (And.intro @s_gnomonlaw25_UpdateCases_r11t8_x (And.intro @s_gnomonlaw25_UpdateCases_r11t9_x (And.intro @s_gnomonlaw25_UpdateCases_r11t10_x (And.intro @s_gnomonlaw25_UpdateCases_r11t11_x (And.intro @s_gnomonlaw25_UpdateCases_r11t12_tale (And.intro @s_gnomonlaw25_UpdateCases_r11t12_x (And.intro @s_gnomonlaw25_UpdateCases_r12_tale (And.intro @s_gnomonlaw25_UpdateCases_r13p0_tale (And.intro @s_gnomonlaw25_UpdateCases_r13_x (And.intro @s_gnomonlaw25_UpdateCases_r13t1_x (And.intro @s_gnomonlaw25_UpdateCases_r13p2_tale (And.intro @s_gnomonlaw25_UpdateCases_r13t2_x (And.intro @s_gnomonlaw25_UpdateCases_r13t3_x (And.intro @s_gnomonlaw25_UpdateCases_r13t4_x (And.intro @s_gnomonlaw25_UpdateCases_r13t5_x (And.intro @s_gnomonlaw25_UpdateCases_r13t6_x (And.intro @s_gnomonlaw25_UpdateCases_r13t7_x (And.intro @s_gnomonlaw25_UpdateCases_r13t8_x (And.intro @s_gnomonlaw25_UpdateCases_r13t9_x (And.intro @s_gnomonlaw25_UpdateCases_r13t10_x (And.intro @s_gnomonlaw25_UpdateCases_r13t11_tale (And.intro @s_gnomonlaw25_UpdateCases_r13t11_x (And.intro @s_gnomonlaw25_UpdateCases_r14_tale (And.intro @s_gnomonlaw25_UpdateCases_r15p0_tale (And.intro @s_gnomonlaw25_UpdateCases_r15_x (And.intro @s_gnomonlaw25_UpdateCases_r15t1_x (And.intro @s_gnomonlaw25_UpdateCases_r15t2_tale (And.intro @s_gnomonlaw25_UpdateCases_r15t2_x (And.intro @s_gnomonlaw25_UpdateCases_r16p0_tale (And.intro @s_gnomonlaw25_UpdateCases_r16_x (And.intro @s_gnomonlaw25_UpdateCases_r16t1_x (And.intro @s_gnomonlaw25_UpdateCases_r17p0_tale (And.intro @s_gnomonlaw25_UpdateCases_r17_x (And.intro @s_gnomonlaw25_UpdateCases_r17t1_x (And.intro @s_gnomonlaw25_UpdateCases_r17t2_x (And.intro @s_gnomonlaw25_UpdateCases_r17p3_tale (And.intro @s_gnomonlaw25_UpdateCases_r17t3_x (And.intro @s_gnomonlaw25_UpdateCases_r17t4_x (And.intro @s_gnomonlaw25_UpdateCases_r17t5_x (And.intro @s_gnomonlaw25_UpdateCases_r17t6_x (And.intro @s_gnomonlaw25_UpdateCases_r17t7_x (And.intro @s_gnomonlaw25_UpdateCases_r17t8_x (And.intro @s_gnomonlaw25_UpdateCases_r17t9_x (And.intro @s_gnomonlaw25_UpdateCases_r17t10_x (And.intro @s_gnomonlaw25_UpdateCases_r17t11_x (And.intro @s_gnomonlaw25_UpdateCases_r17t12_tale (And.intro @s_gnomonlaw25_UpdateCases_r17t12_x (And.intro @s_gnomonlaw25_UpdateCases_r18_tale (And.intro @s_gnomonlaw25_UpdateCases_r19_tale (And.intro @s_gnomonlaw25_UpdateCases_l0_ev (And.intro @s_gnomonlaw25_UpdateCases_r20p0_tale (And.intro @s_gnomonlaw25_UpdateCases_r20_x (And.intro @s_gnomonlaw25_UpdateCases_r20t1_x (And.intro @s_gnomonlaw25_UpdateCases_r20t2_x (And.intro @s_gnomonlaw25_UpdateCases_r20t3_x (And.intro @s_gnomonlaw25_UpdateCases_r20t4_x (And.intro @s_gnomonlaw25_UpdateCases_r20t5_x (And.intro @s_gnomonlaw25_UpdateCases_r20t6_x (And.intro @s_gnomonlaw25_UpdateCases_r20t7_x (And.intro @s_gnomonlaw25_UpdateCases_r20t8_x (And.intro @s_gnomonlaw25_UpdateCases_r20t9_x (And.intro @s_gnomonlaw25_UpdateCases_r20t10_x (And.intro @s_gnomonlaw25_UpdateCases_r20t11_x (And.intro @s_gnomonlaw25_UpdateCases_r20t12_x (And.intro @s_gnomonlaw25_UpdateCases_r20t13_x (And.intro @s_gnomonlaw25_UpdateCases_r20t14_x (And.intro @s_gnomonlaw25_UpdateCases_r20t15_x (And.intro @s_gnomonlaw25_UpdateCases_r20t16_x (And.intro @s_gnomonlaw25_UpdateCases_r20t17_x (And.intro @s_gnomonlaw25_UpdateCases_r20t18_x (And.intro @s_gnomonlaw25_UpdateCases_r20t19_x (And.intro @s_gnomonlaw25_UpdateCases_r20p20_tale (And.intro @s_gnomonlaw25_UpdateCases_r20t20_x (And.intro @s_gnomonlaw25_UpdateCases_r20t21_x (And.intro @s_gnomonlaw25_UpdateCases_r20t22_tale (@s_gnomonlaw25_UpdateCases_r20t22_x)))))))))))))))))))))))))))))))))))))))))))))))))))))))))))))))))))))))))))))))))))))))))))))))))))))))))))))))))))))))))))
theorem CB2_5 : compK Try.prog PX0 5 = some (false, s_gnomonlaw25_UpdateCases.ntmps, s_gnomonlaw25_UpdateCases.results, s_gnomonlaw25_UpdateCases.body.bare) := by kernel_rfl
end Go.Proofs.Ytlclbbieacjmfaa
set_option maxRecDepth 100000
namespace Go.Proofs.Ytlclbbieacjmfaa
open Go.AM
section
variable {CT : Nat → Option CFun}
theorem cases_step (h : TC CT) (hS : CT k_update_Store = some (.code s_update_Store)) {A0 : Heap} {o : Int} (ho : o < 2 ^ 63) {ia ja ib jb iu ju it jt : Nat} {pa pb pu pt : WS} (sa : SetP A0 ia ja pa) (sb : SetP A0 ib jb pb) (su : SetP A0 iu ju pu) (st : SetP A0 it jt pt) (ca : cnt pa ≤ 1000) (cb : cnt pb ≤ 1000) (cu : cnt pu ≤ 2000) (ct : cnt pt ≤ 1000)
    (hu : ∀ x, x ∈ el pu ↔ x ∈ el pa ∨ x ∈ el pb) (hno : o ∉ el pt) (n : Nat) (hn : n < 2) :
    ∃ B, evC (callW CT) itW 0 s_gnomonlaw25_UpdateCases_l0 (frOf 131 [(3, .s (.int .i64 o)), (9, .ref ia 0 0), (10, .ref ib 0 0), (11, .ref iu 0 0), (12, .ref it 0 0), (13, .s (.int .i64 n))]) A0 = some (.nrm, frOf 131 [(3, .s (.int .i64 o)), (9, .ref ia 0 0), (10, .ref ib 0 0), (11, .ref iu 0 0), (12, .ref it 0 0), (13, .s (.int .i64 (n + 1 : Nat)))], B) ∧ KeepD A0.length [] A0 B := by
  have da := SetW.lt sa
  have db := SetW.lt sb
  have du := SetW.lt su
  have dt := SetW.lt st
  obtain ⟨single, hsg⟩ : ∃ b, ((n : Int) == 1) = b := ⟨_, rfl⟩
  have hn2 : ((n : Int) < 2) := by omega
  have hwn := wrap_pos (n := n) (by omega)
  obtain ⟨A1, eA1, sz, kA1, lA1⟩ := of_nil h.toTB A0
  have sa := kA1.s sa
  have sb := kA1.s sb
  have su := kA1.s su
  have st := kA1.s st
  have cz : cnt noP ≤ 0 := Nat.le_refl _
  have dz := SetW.lt sz
  obtain ⟨is1, js1, qs1, A2, eA2, ss1, kA2, gs1, us1, mA2, zs1⟩ := store_P h hS sa (by omega) sb (by omega) sz (by omega) o ho single
  have sa := kA2.s sa
  have sb := kA2.s sb
  have su := kA2.s su
  have st := kA2.s st
  have sz := kA2.s sz
  have cs1 := mA2
  have ds1 := SetW.lt ss1
  have lA2 := kA2.1
  have hs1 : el qs1 = [] := List.eq_nil_iff_forall_not_mem.2 fun x hx => by have := (zs1 x).1 hx; rw [noP_el, storeL, if_pos rfl] at this; exact this
  have ys1 : cnt qs1 = 0 := by rw [← el_len, hs1]; rfl
  have f1 := fun base => len_fun h.len base ss1
  rw [ys1] at f1
  obtain ⟨is2, js2, A3, eA3, ss2, kA3, gs2, us2⟩ := store_nil h hS (H := A2) (.ref (ia) 0 0) (.ref (ib) 0 0) o single
  have sa := kA3.s sa
  have sb := kA3.s sb
  have su := kA3.s su
  have st := kA3.s st
  have sz := kA3.s sz
  have ss1 := kA3.s ss1
  have cs2 : cnt noP ≤ 0 := Nat.le_refl _
  have ds2 := SetW.lt ss2
  have lA3 := kA3.1
  have f2 := fun base => len_fun h.len base ss2
  rw [noP_cnt] at f2
  have f3 := fun base => len_fun h.len base st
  have n00 : ((((0 : Nat) : Nat) : Int) != 0) = false := rfl
  by_cases h0 : 0 < cnt pt
  · have g0 : decide ((cnt pt : Int) > 0) = true := by simp; omega
    have hte : ¬ el pt = [] := by intro e; have := el_len pt; rw [e] at this; simp at this; omega
    obtain ⟨is3, js3, qs3, A4, eA4, ss3, kA4, gs3, us3, mA4, zs3⟩ := store_P h hS sa (by omega) sb (by omega) st (by omega) o ho single
    have sa := kA4.s sa
    have sb := kA4.s sb
    have su := kA4.s su
    have st := kA4.s st
    have sz := kA4.s sz
    have ss1 := kA4.s ss1
    have ss2 := kA4.s ss2
    have cs3 := mA4
    have ds3 := SetW.lt ss3
    have lA4 := kA4.1
    obtain ⟨r4, A5, eA5, zr4, kA5⟩ := same_P h 0 ss3 (by omega) (AtV.set h.toTB sa) (LenV.set h.toTB sa) (Nat.zero_le _)
    have zr4 := zr4.trans (same_iff ss3.wd sa.wd)
    have yr4 : r4 = true := zr4.2 (el_ext ss3.wd sa.wd fun x => by rw [zs3, storeL, if_neg hte, if_pos hno])
    subst yr4
    have sa := kA5.s sa
    have sb := kA5.s sb
    have su := kA5.s su
    have st := kA5.s st
    have sz := kA5.s sz
    have ss1 := kA5.s ss1
    have ss2 := kA5.s ss2
    have ss3 := kA5.s ss3
    have lA5 := kA5.1
    obtain ⟨A6, eA6, smo, kA6, lA6⟩ := copy_ex h 0 st
    have sa := kA6.s sa
    have sb := kA6.s sb
    have su := kA6.s su
    have st := kA6.s st
    have sz := kA6.s sz
    have ss1 := kA6.s ss1
    have ss2 := kA6.s ss2
    have ss3 := kA6.s ss3
    have cmo := ct
    have dmo := SetW.lt smo
    have eA7 := add_P h.toTB 0 smo (Nat.zero_le _) (Nat.zero_le _) o ho (by omega)
    have kA7 := putPH_b A6 (A5.length + 1) (A5.length) (addP pt o)
    have nmo := smo.putPH (smo.wd.addP ho)
    have mA7 := cnt_add1 smo.wd ho
    have lA7 := putPH_len A6 (A5.length + 1) (A5.length) (addP pt o)
    generalize putPH A6 (A5.length + 1) (A5.length) (addP pt o) = A7 at eA7 kA7 nmo lA7
    have sa := kA7.s sa ⟨by omega, by omega, by omega, by omega⟩
    have sb := kA7.s sb ⟨by omega, by omega, by omega, by omega⟩
    have su := kA7.s su ⟨by omega, by omega, by omega, by omega⟩
    have st := kA7.s st ⟨by omega, by omega, by omega, by omega⟩
    have sz := kA7.s sz ⟨by omega, by omega, by omega, by omega⟩
    have ss1 := kA7.s ss1 ⟨by omega, by omega, by omega, by omega⟩
    have ss2 := kA7.s ss2 ⟨by omega, by omega, by omega, by omega⟩
    have ss3 := kA7.s ss3 ⟨by omega, by omega, by omega, by omega⟩
    have smo := nmo
    clear nmo
    have cmo := mA7
    have f5 := fun base => len_fun h.len base st
    by_cases h1 : 0 ≤ o
    · have g1 : decide (o ≥ 0) = true := by simpa using h1
      have hmo : ∀ x, x ∈ el (addP pt o) ↔ x ∈ el pt ∨ x = o := fun x => by rw [mem_addP st.wd ho]; exact ⟨fun h => h.imp id And.left, fun h => h.imp id fun e => ⟨e, h1⟩⟩
      have hml : (el (addP pt o)).length > 1 := by
        have hnd : (o :: el pt).Nodup := List.nodup_cons.2 ⟨hno, el_nodup st.wd⟩
        have := nodup_le (o :: el pt) (el (addP pt o)) hnd fun x hx => by rcases List.mem_cons.1 hx with rfl | hx; exact (hmo _).2 (.inr rfl); exact (hmo _).2 (.inl hx)
        have h2 := el_len pt
        rw [List.length_cons] at this
        omega
      obtain ⟨is4, js4, qs4, A8, eA8, ss4, kA8, gs4, us4, mA8, zs4⟩ := store_P h hS sa (by omega) sb (by omega) smo (by omega) o ho single
      have sa := kA8.s sa
      have sb := kA8.s sb
      have su := kA8.s su
      have st := kA8.s st
      have sz := kA8.s sz
      have ss1 := kA8.s ss1
      have ss2 := kA8.s ss2
      have ss3 := kA8.s ss3
      have smo := kA8.s smo
      have cs4 := mA8
      have ds4 := SetW.lt ss4
      have lA8 := kA8.1
      obtain ⟨r6, A9, eA9, zr6, kA9⟩ := same_P h 0 ss4 (by omega) (AtV.set h.toTB su) (LenV.set h.toTB su) (Nat.zero_le _)
      have zr6 := zr6.trans (same_iff ss4.wd su.wd)
      have yr6 : r6 = true := zr6.2 (el_ext ss4.wd su.wd fun x => by rw [zs4, hu, storeL, if_neg (fun e => by rw [e] at hml; simp at hml), if_neg (fun hh => hh ((hmo o).2 (.inr rfl))), if_pos (.inl hml)])
      subst yr6
      have sa := kA9.s sa
      have sb := kA9.s sb
      have su := kA9.s su
      have st := kA9.s st
      have sz := kA9.s sz
      have ss1 := kA9.s ss1
      have ss2 := kA9.s ss2
      have ss3 := kA9.s ss3
      have smo := kA9.s smo
      have ss4 := kA9.s ss4
      have lA9 := kA9.1
      refine ⟨A9, ?_, ⟨by omega, fun id h1 _ => by rw [kA9.2 id (by omega) (by simp), kA8.2 id (by omega) (by simp), kA7.2 id (by omega) (by omega) (by omega), kA6.2 id (by omega) (by simp), kA5.2 id (by omega) (by simp), kA4.2 id (by omega) (by simp), kA3.2 id (by omega) (by simp), kA2.2 id (by omega) (by simp), kA1.2 id (by omega) (by simp)]⟩⟩
      simp only [a_gnomonlaw25_UpdateCases,s_gnomonlaw25_UpdateCases_l0_b, am0,am1,am2,am3,am4,am5,am6,am7,bl,i64,reduceIte,reduceCtorEq,Nat.reduceEqDiff,Nat.reduceLT,Nat.reduceLeDiff,Nat.reduceBEq,Nat.reduceAdd,fillA,splice,Nat.reduceMul,al0,al1,al2,al3,al4,al5,al6,al7,al8,al9,al10,al11,al12,al13,al14,al15,al16,al17,al18,al19,al20,al21,al22,al23,al24,al25,al26,al27,al28,al29,al30,al31,al32,al33,al34,amY, hsg, hwn, hn2, n00, eA1, eA2, f1, eA3, f2, f3, eA4, eA5, eA6, eA7, f5, eA8, eA9, g0, g1]
      done
    · have g1 : decide (o ≥ 0) = false := by simpa using h1
      refine ⟨A7, ?_, ⟨by omega, fun id h1 _ => by rw [kA7.2 id (by omega) (by omega) (by omega), kA6.2 id (by omega) (by simp), kA5.2 id (by omega) (by simp), kA4.2 id (by omega) (by simp), kA3.2 id (by omega) (by simp), kA2.2 id (by omega) (by simp), kA1.2 id (by omega) (by simp)]⟩⟩
      simp only [a_gnomonlaw25_UpdateCases,s_gnomonlaw25_UpdateCases_l0_b, am0,am1,am2,am3,am4,am5,am6,am7,bl,i64,reduceIte,reduceCtorEq,Nat.reduceEqDiff,Nat.reduceLT,Nat.reduceLeDiff,Nat.reduceBEq,Nat.reduceAdd,fillA,splice,Nat.reduceMul,al0,al1,al2,al3,al4,al5,al6,al7,al8,al9,al10,al11,al12,al13,al14,al15,al16,al17,al18,al19,al20,al21,al22,al23,al24,al25,al26,al27,al28,al29,al30,al31,al32,al33,al34,amY, hsg, hwn, hn2, n00, eA1, eA2, f1, eA3, f2, f3, eA4, eA5, eA6, eA7, f5, g0, g1]
      done
  · have g0 : decide ((cnt pt : Int) > 0) = false := by simp; omega
    obtain ⟨A4, eA4, smo, kA4, lA4⟩ := copy_ex h 0 st
    have sa := kA4.s sa
    have sb := kA4.s sb
    have su := kA4.s su
    have st := kA4.s st
    have sz := kA4.s sz
    have ss1 := kA4.s ss1
    have ss2 := kA4.s ss2
    have cmo := ct
    have dmo := SetW.lt smo
    have eA5 := add_P h.toTB 0 smo (Nat.zero_le _) (Nat.zero_le _) o ho (by omega)
    have kA5 := putPH_b A4 (A3.length + 1) (A3.length) (addP pt o)
    have nmo := smo.putPH (smo.wd.addP ho)
    have mA5 := cnt_add1 smo.wd ho
    have lA5 := putPH_len A4 (A3.length + 1) (A3.length) (addP pt o)
    generalize putPH A4 (A3.length + 1) (A3.length) (addP pt o) = A5 at eA5 kA5 nmo lA5
    have sa := kA5.s sa ⟨by omega, by omega, by omega, by omega⟩
    have sb := kA5.s sb ⟨by omega, by omega, by omega, by omega⟩
    have su := kA5.s su ⟨by omega, by omega, by omega, by omega⟩
    have st := kA5.s st ⟨by omega, by omega, by omega, by omega⟩
    have sz := kA5.s sz ⟨by omega, by omega, by omega, by omega⟩
    have ss1 := kA5.s ss1 ⟨by omega, by omega, by omega, by omega⟩
    have ss2 := kA5.s ss2 ⟨by omega, by omega, by omega, by omega⟩
    have smo := nmo
    clear nmo
    have cmo := mA5
    have f4 := fun base => len_fun h.len base st
    cases g1 : decide (o ≥ 0) with
    | true =>
      refine ⟨A5, ?_, ⟨by omega, fun id h1 _ => by rw [kA5.2 id (by omega) (by omega) (by omega), kA4.2 id (by omega) (by simp), kA3.2 id (by omega) (by simp), kA2.2 id (by omega) (by simp), kA1.2 id (by omega) (by simp)]⟩⟩
      simp only [a_gnomonlaw25_UpdateCases,s_gnomonlaw25_UpdateCases_l0_b, am0,am1,am2,am3,am4,am5,am6,am7,bl,i64,reduceIte,reduceCtorEq,Nat.reduceEqDiff,Nat.reduceLT,Nat.reduceLeDiff,Nat.reduceBEq,Nat.reduceAdd,fillA,splice,Nat.reduceMul,al0,al1,al2,al3,al4,al5,al6,al7,al8,al9,al10,al11,al12,al13,al14,al15,al16,al17,al18,al19,al20,al21,al22,al23,al24,al25,al26,al27,al28,al29,al30,al31,al32,al33,al34,amY, hsg, hwn, hn2, n00, eA1, eA2, f1, eA3, f2, f3, eA4, eA5, f4, g0, g1]
      done
    | false =>
      refine ⟨A5, ?_, ⟨by omega, fun id h1 _ => by rw [kA5.2 id (by omega) (by omega) (by omega), kA4.2 id (by omega) (by simp), kA3.2 id (by omega) (by simp), kA2.2 id (by omega) (by simp), kA1.2 id (by omega) (by simp)]⟩⟩
      simp only [a_gnomonlaw25_UpdateCases,s_gnomonlaw25_UpdateCases_l0_b, am0,am1,am2,am3,am4,am5,am6,am7,bl,i64,reduceIte,reduceCtorEq,Nat.reduceEqDiff,Nat.reduceLT,Nat.reduceLeDiff,Nat.reduceBEq,Nat.reduceAdd,fillA,splice,Nat.reduceMul,al0,al1,al2,al3,al4,al5,al6,al7,al8,al9,al10,al11,al12,al13,al14,al15,al16,al17,al18,al19,al20,al21,al22,al23,al24,al25,al26,al27,al28,al29,al30,al31,al32,al33,al34,amY, hsg, hwn, hn2, n00, eA1, eA2, f1, eA3, f2, f3, eA4, eA5, f4, g0, g1]
      done
theorem cases_law (h : TC CT) (hS : CT k_update_Store = some (.code s_update_Store)) (hF : CT k_gnomonlaw25_UpdateCases = some (.code s_gnomonlaw25_UpdateCases)) (hwk : ∀ base H, callW CT (.fn k_gnomonlaw25_wakes [] []) [] base H = some (.s (.bool true), H))
    (va : V) (a : List Int) (hva : ∀ H, Rd H va (a.map iV)) (hwa : Wide1 va) (hna : a.length < 2 ^ 63) (hxa : ∀ x ∈ a, x < 2 ^ 63) (vb : V) (b : List Int) (hvb : ∀ H, Rd H vb (b.map iV)) (hwb : Wide1 vb) (hnb : b.length < 2 ^ 63) (hxb : ∀ x ∈ b, x < 2 ^ 63) (vc : V) (c : List Int) (hvc : ∀ H, Rd H vc (c.map iV)) (hwc : Wide1 vc) (hnc : c.length < 2 ^ 63) (hxc : ∀ x ∈ c, x < 2 ^ 63) (o : Int) (ho : o < 2 ^ 63) :
    ∃ H', callW CT (.fn k_gnomonlaw25_UpdateCases [] []) [va, vb, vc, .s (.int .i64 o)] 0 [] = some (.s (.bool true), H') := by
  suffices hall : ∀ A0 : Heap, ∃ H', callW CT (.fn k_gnomonlaw25_UpdateCases [] []) [va, vb, vc, .s (.int .i64 o)] 0 A0 = some (.s (.bool true), H') from hall []
  intro A0
  have la := fun H => iV_len' (hva H)
  have lb := fun H => iV_len' (hvb H)
  have lc := fun H => iV_len' (hvc H)
  by_cases ha : a.length > 300
  · have hg : decide ((a.length : Int) > 300) = true := by simp; omega
    refine ⟨A0, callW_fn (c := s_gnomonlaw25_UpdateCases) hF (by simp [s_gnomonlaw25_UpdateCases]) ?_⟩
    simp only [s_gnomonlaw25_UpdateCases, a_gnomonlaw25_UpdateCases,s_gnomonlaw25_UpdateCases_l0_b, am0,am1,am2,am3,am4,am5,am6,am7,bl,i64,reduceIte,reduceCtorEq,Nat.reduceEqDiff,Nat.reduceLT,Nat.reduceLeDiff,Nat.reduceBEq,Nat.reduceAdd,fillA,splice,Nat.reduceMul,al0,al1,al2,al3,al4,al5,al6,al7,al8,al9,al10,al11,al12,al13,al14,al15,al16,al17,al18,al19,al20,al21,al22,al23,al24,al25,al26,al27,al28,al29,al30,al31,al32,al33,al34,amY, la, lb, lc, hg, hwk]
    done
  have ga : decide ((a.length : Int) > 300) = false := by simp; omega
  by_cases hb : b.length > 300
  · have hg : decide ((b.length : Int) > 300) = true := by simp; omega
    refine ⟨A0, callW_fn (c := s_gnomonlaw25_UpdateCases) hF (by simp [s_gnomonlaw25_UpdateCases]) ?_⟩
    simp only [s_gnomonlaw25_UpdateCases, a_gnomonlaw25_UpdateCases,s_gnomonlaw25_UpdateCases_l0_b, am0,am1,am2,am3,am4,am5,am6,am7,bl,i64,reduceIte,reduceCtorEq,Nat.reduceEqDiff,Nat.reduceLT,Nat.reduceLeDiff,Nat.reduceBEq,Nat.reduceAdd,fillA,splice,Nat.reduceMul,al0,al1,al2,al3,al4,al5,al6,al7,al8,al9,al10,al11,al12,al13,al14,al15,al16,al17,al18,al19,al20,al21,al22,al23,al24,al25,al26,al27,al28,al29,al30,al31,al32,al33,al34,amY, la, lb, lc, ga, hg, hwk]
    done
  have gb : decide ((b.length : Int) > 300) = false := by simp; omega
  by_cases hc : c.length > 300
  · have hg : decide ((c.length : Int) > 300) = true := by simp; omega
    refine ⟨A0, callW_fn (c := s_gnomonlaw25_UpdateCases) hF (by simp [s_gnomonlaw25_UpdateCases]) ?_⟩
    simp only [s_gnomonlaw25_UpdateCases, a_gnomonlaw25_UpdateCases,s_gnomonlaw25_UpdateCases_l0_b, am0,am1,am2,am3,am4,am5,am6,am7,bl,i64,reduceIte,reduceCtorEq,Nat.reduceEqDiff,Nat.reduceLT,Nat.reduceLeDiff,Nat.reduceBEq,Nat.reduceAdd,fillA,splice,Nat.reduceMul,al0,al1,al2,al3,al4,al5,al6,al7,al8,al9,al10,al11,al12,al13,al14,al15,al16,al17,al18,al19,al20,al21,al22,al23,al24,al25,al26,al27,al28,al29,al30,al31,al32,al33,al34,amY, la, lb, lc, ga, gb, hg, hwk]
    done
  have gc : decide ((c.length : Int) > 300) = false := by simp; omega
  obtain ⟨A1, eA1, sa, kx, lA1⟩ := of_P h.toTB 0 (H := A0) (v := va) (l := a) (hva _) hwa (by first | omega | decide | simp) hxa (Nat.zero_le _)
  have kA1 := kx.d []
  clear kx
  have ca : cnt (ofP a noP) ≤ 300 := Nat.le_trans (cnt_of hxa) (by first | omega | decide | simp)
  have da := SetW.lt sa
  obtain ⟨A2, eA2, sb, kx, lA2⟩ := of_P h.toTB 0 (H := A1) (v := vb) (l := b) (hvb _) hwb (by first | omega | decide | simp) hxb (Nat.zero_le _)
  have kA2 := kx.d []
  clear kx
  have sa := kA2.s sa
  have cb : cnt (ofP b noP) ≤ 300 := Nat.le_trans (cnt_of hxb) (by first | omega | decide | simp)
  have db := SetW.lt sb
  obtain ⟨A3, eA3, su, kA3, lA3⟩ := copy_ex h 0 sa
  have sa := kA3.s sa
  have sb := kA3.s sb
  have cu := ca
  have du := SetW.lt su
  have mA4 := cnt_uniA su.wd sb.wd
  obtain ⟨A4, eA4, nu, kA4⟩ := union_P h.toTB 0 su (Nat.zero_le _) (Nat.zero_le _) sb (.inr ⟨by omega, by omega, by omega, by omega⟩) (by omega) h.union
  have sa := kA4.s sa ⟨by omega, by omega, by omega, by omega⟩
  have sb := kA4.s sb ⟨by omega, by omega, by omega, by omega⟩
  have su := nu
  clear nu
  have cu := mA4
  have lA4 := kA4.1
  obtain ⟨A5, eA5, st, kx, lA5⟩ := of_P h.toTB 0 (H := A4) (v := vc) (l := c) (hvc _) hwc (by first | omega | decide | simp) hxc (Nat.zero_le _)
  have kA5 := kx.d []
  clear kx
  have sa := kA5.s sa
  have sb := kA5.s sb
  have su := kA5.s su
  have ct : cnt (ofP c noP) ≤ 300 := Nat.le_trans (cnt_of hxc) (by first | omega | decide | simp)
  have dt := SetW.lt st
  have eA6 := drop_P h 0 st (Nat.zero_le _) (Nat.zero_le _) o ho (by omega)
  have kA6 := putPH_b A5 (A4.length + 1) (A4.length) (dropP (ofP c noP) o)
  have nt := st.putPH (st.wd.dropP ho)
  have mA6 := cnt_dropP st.wd ho
  have lA6 := putPH_len A5 (A4.length + 1) (A4.length) (dropP (ofP c noP) o)
  generalize putPH A5 (A4.length + 1) (A4.length) (dropP (ofP c noP) o) = A6 at eA6 kA6 nt lA6
  have sa := kA6.s sa ⟨by omega, by omega, by omega, by omega⟩
  have sb := kA6.s sb ⟨by omega, by omega, by omega, by omega⟩
  have su := kA6.s su ⟨by omega, by omega, by omega, by omega⟩
  have st := nt
  clear nt
  have ct := mA6
  have hu : ∀ x, x ∈ el (uniA (ofP a noP) (ofP b noP)) ↔ x ∈ el (ofP a noP) ∨ x ∈ el (ofP b noP) := fun x => mem_uniA (of_wd hxa) (of_wd hxb)
  have hno : o ∉ el (dropP (ofP c noP) o) := fun hm => ((mem_dropP (of_wd hxc) ho).1 hm).2 rfl
  obtain ⟨B1, x1, y1⟩ := cases_step h hS ho sa sb su st (by omega) (by omega) (by omega) (by omega) hu hno 0 (by decide)
  have y1' := y1.trim (Nat.le_refl _) (frOf 131 [(3, .s (.int .i64 o)), (9, .ref (A0.length + 1) 0 0), (10, .ref (A1.length + 1) 0 0), (11, .ref (A2.length + 1) 0 0), (12, .ref (A4.length + 1) 0 0), (13, .s (.int .i64 ((0 + 1 : Nat) : Int)))])
  obtain ⟨C1, hC1⟩ : ∃ C, trim A6.length (frOf 131 [(3, .s (.int .i64 o)), (9, .ref (A0.length + 1) 0 0), (10, .ref (A1.length + 1) 0 0), (11, .ref (A2.length + 1) 0 0), (12, .ref (A4.length + 1) 0 0), (13, .s (.int .i64 ((0 + 1 : Nat) : Int)))]) B1 = C := ⟨_, rfl⟩
  rw [hC1] at y1'
  have sa := y1'.s sa
  have sb := y1'.s sb
  have su := y1'.s su
  have st := y1'.s st
  obtain ⟨B2, x2, y2⟩ := cases_step h hS ho sa sb su st (by omega) (by omega) (by omega) (by omega) hu hno 1 (by decide)
  have y2' : KeepD A6.length [] C1 (trim A6.length (frOf 131 [(3, .s (.int .i64 o)), (9, .ref (A0.length + 1) 0 0), (10, .ref (A1.length + 1) 0 0), (11, .ref (A2.length + 1) 0 0), (12, .ref (A4.length + 1) 0 0), (13, .s (.int .i64 ((1 + 1 : Nat) : Int)))]) B2) := (y2.mono y1'.1 (fun _ _ h => h)).trim (Nat.le_refl _) _
  obtain ⟨C2, hC2⟩ : ∃ C, trim A6.length (frOf 131 [(3, .s (.int .i64 o)), (9, .ref (A0.length + 1) 0 0), (10, .ref (A1.length + 1) 0 0), (11, .ref (A2.length + 1) 0 0), (12, .ref (A4.length + 1) 0 0), (13, .s (.int .i64 ((1 + 1 : Nat) : Int)))]) B2 = C := ⟨_, rfl⟩
  rw [hC2] at y2'
  have hloop : ∃ en, itW (evC (callW CT) itW 0 s_gnomonlaw25_UpdateCases_l0) [] A6.length (frOf 131 [(3, .s (.int .i64 o)), (9, .ref (A0.length + 1) 0 0), (10, .ref (A1.length + 1) 0 0), (11, .ref (A2.length + 1) 0 0), (12, .ref (A4.length + 1) 0 0), (13, .s (.int .i64 0))]) A6 = some (.ext 0, frOf 131 ((3, .s (.int .i64 o)) :: (9, .ref (A0.length + 1) 0 0) :: (10, .ref (A1.length + 1) 0 0) :: (11, .ref (A2.length + 1) 0 0) :: en), trim A6.length (frOf 131 ((3, .s (.int .i64 o)) :: (9, .ref (A0.length + 1) 0 0) :: (10, .ref (A1.length + 1) 0 0) :: (11, .ref (A2.length + 1) 0 0) :: en)) C2) ∧ ∃ a b c, en = [(12, a), (13, b), (45, c)] := by
    refine ⟨[(12, .ref (A4.length + 1) 0 0), (13, .s (.int .i64 ((1 + 1 : Nat) : Int))), (45, .s (.bool false))], ?_, _, _, _, rfl⟩
    rw [show (((0 : Nat) : Nat) : Int) = 0 from rfl] at x1
    rw [itW_step, x1, stepW_nrm]
    rw [show killS [] (frOf 131 [(3, .s (.int .i64 o)), (9, .ref (A0.length + 1) 0 0), (10, .ref (A1.length + 1) 0 0), (11, .ref (A2.length + 1) 0 0), (12, .ref (A4.length + 1) 0 0), (13, .s (.int .i64 ((0 + 1 : Nat) : Int)))]) = (frOf 131 [(3, .s (.int .i64 o)), (9, .ref (A0.length + 1) 0 0), (10, .ref (A1.length + 1) 0 0), (11, .ref (A2.length + 1) 0 0), (12, .ref (A4.length + 1) 0 0), (13, .s (.int .i64 ((0 + 1 : Nat) : Int)))]) from rfl, hC1, itW_step, x2, stepW_nrm]
    rw [show killS [] (frOf 131 [(3, .s (.int .i64 o)), (9, .ref (A0.length + 1) 0 0), (10, .ref (A1.length + 1) 0 0), (11, .ref (A2.length + 1) 0 0), (12, .ref (A4.length + 1) 0 0), (13, .s (.int .i64 ((1 + 1 : Nat) : Int)))]) = (frOf 131 [(3, .s (.int .i64 o)), (9, .ref (A0.length + 1) 0 0), (10, .ref (A1.length + 1) 0 0), (11, .ref (A2.length + 1) 0 0), (12, .ref (A4.length + 1) 0 0), (13, .s (.int .i64 ((1 + 1 : Nat) : Int)))]) from rfl, hC2, itW_step]
    have hf : decide ((((1 + 1 : Nat) : Nat) : Int) < 2) = false := rfl
    simp only [a_gnomonlaw25_UpdateCases,s_gnomonlaw25_UpdateCases_l0_b, am0,am1,am2,am3,am4,am5,am6,am7,bl,i64,reduceIte,reduceCtorEq,Nat.reduceEqDiff,Nat.reduceLT,Nat.reduceLeDiff,Nat.reduceBEq,Nat.reduceAdd,fillA,splice,Nat.reduceMul,al0,al1,al2,al3,al4,al5,al6,al7,al8,al9,al10,al11,al12,al13,al14,al15,al16,al17,al18,al19,al20,al21,al22,al23,al24,al25,al26,al27,al28,al29,al30,al31,al32,al33,al34,amY, hf]
    done
  obtain ⟨en, hloop, q1, q2, q3, rfl⟩ := hloop
  obtain ⟨C3, hC3⟩ : ∃ C, trim A6.length (frOf 131 ((3, .s (.int .i64 o)) :: (9, .ref (A0.length + 1) 0 0) :: (10, .ref (A1.length + 1) 0 0) :: (11, .ref (A2.length + 1) 0 0) :: [(12, q1), (13, q2), (45, q3)])) C2 = C := ⟨_, rfl⟩
  rw [hC3] at hloop
  have y3 : KeepD A6.length [] C1 C3 := by rw [← hC3]; exact y2'.trim (Nat.le_refl _) _
  have hC1l := y1'.1
  have hC3l := y3.1
  have sa : SetP C3 (A0.length + 1) (A0.length) (ofP a noP) := y3.setP sa ⟨by omega, by omega⟩ ⟨by simp, by simp⟩
  have sb : SetP C3 (A1.length + 1) (A1.length) (ofP b noP) := y3.setP sb ⟨by omega, by omega⟩ ⟨by simp, by simp⟩
  have su : SetP C3 (A2.length + 1) (A2.length) (uniA (ofP a noP) (ofP b noP)) := y3.setP su ⟨by omega, by omega⟩ ⟨by simp, by simp⟩
  cases g1 : decide (o < 0) with
  | true =>
    refine ⟨C3, callW_fn (c := s_gnomonlaw25_UpdateCases) hF (by simp [s_gnomonlaw25_UpdateCases]) ?_⟩
    simp only [s_gnomonlaw25_UpdateCases, a_gnomonlaw25_UpdateCases,s_gnomonlaw25_UpdateCases_l0_b, am0,am1,am2,am3,am4,am5,am6,am7,bl,i64,reduceIte,reduceCtorEq,Nat.reduceEqDiff,Nat.reduceLT,Nat.reduceLeDiff,Nat.reduceBEq,Nat.reduceAdd,fillA,splice,Nat.reduceMul,al0,al1,al2,al3,al4,al5,al6,al7,al8,al9,al10,al11,al12,al13,al14,al15,al16,al17,al18,al19,al20,al21,al22,al23,al24,al25,al26,al27,al28,al29,al30,al31,al32,al33,al34,amY, la, lb, lc, ga, gb, gc, hwk, hloop, g1, eA1, eA2, eA3, eA4, eA5, eA6]
    done
  | false =>
    have h1 : 0 ≤ o := by simp at g1; omega
    have hxo : ∀ x ∈ [o], x < 2 ^ 63 := fun x hx => by simp at hx; subst hx; exact ho
    have hoo : ∀ x, x ∈ el (ofP [o] noP) ↔ x = o := fun x => by rw [mem_of hxo]; simp; omega
    have hol : (el (ofP [o] noP)).length = 1 := by
      have e : el (ofP [o] noP) = [o] := rise_ext (el_lt (of_wd hxo)) (by simp) fun x => by rw [hoo]; simp
      rw [e]; rfl
    obtain ⟨A27, hA27⟩ : ∃ B, C3 ++ [Ob.cells 0 [iV o]] = B := ⟨_, rfl⟩
    have lA27 : A27.length = C3.length + 1 := by rw [← hA27]; simp
    have kA27 : KeepD C3.length [] C3 A27 := ⟨by omega, fun id h1 _ => by rw [← hA27, List.getElem?_append_left h1]⟩
    have wL1 : getC A27 C3.length 0 = some ([o].map iV) := by rw [← hA27]; exact getC_new C3 0 _
    have rL1 : Rd A27 (.sl C3.length 0 0 1 1) ([o].map iV) := getC_sl wL1
    simp only [iV] at hA27
    have sa := kA27.s sa
    have sb := kA27.s sb
    have su := kA27.s su
    obtain ⟨A28, eA28, st1, kx, lA28⟩ := of_P h.toTB 0 (H := A27) (v := (.sl C3.length 0 0 1 1)) (l := [o]) rL1 trivial (by first | omega | decide | simp) hxo (Nat.zero_le _)
    have kA28 := kx.d []
    clear kx
    have sa := kA28.s sa
    have sb := kA28.s sb
    have su := kA28.s su
    have ct1 : cnt (ofP [o] noP) ≤ 1 := Nat.le_trans (cnt_of hxo) (by first | omega | decide | simp)
    have dt1 := SetW.lt st1
    obtain ⟨is1, js1, qs1, A29, eA29, ss1, kA29, gs1, us1, mA29, zs1⟩ := store_P h hS sa (by omega) sb (by omega) st1 (by omega) o ho true
    have sa := kA29.s sa
    have sb := kA29.s sb
    have su := kA29.s su
    have st1 := kA29.s st1
    have cs1 := mA29
    have ds1 := SetW.lt ss1
    have lA29 := kA29.1
    obtain ⟨r21, A30, eA30, zr21, kA30⟩ := same_P h 0 ss1 (by omega) (AtV.set h.toTB sb) (LenV.set h.toTB sb) (Nat.zero_le _)
    have zr21 := zr21.trans (same_iff ss1.wd sb.wd)
    have yr21 : r21 = true := zr21.2 (el_ext ss1.wd sb.wd fun x => by rw [zs1, storeL, if_neg (fun e => by rw [e] at hol; simp at hol), if_neg (fun hh => hh ((hoo o).2 rfl)), if_neg (by rw [hol]; simp)])
    subst yr21
    have sa := kA30.s sa
    have sb := kA30.s sb
    have su := kA30.s su
    have st1 := kA30.s st1
    have ss1 := kA30.s ss1
    have lA30 := kA30.1
    obtain ⟨A31, hA31⟩ : ∃ B, A30 ++ [Ob.cells 0 [iV o]] = B := ⟨_, rfl⟩
    have lA31 : A31.length = A30.length + 1 := by rw [← hA31]; simp
    have kA31 : KeepD A30.length [] A30 A31 := ⟨by omega, fun id h1 _ => by rw [← hA31, List.getElem?_append_left h1]⟩
    have wL2 : getC A31 A30.length 0 = some ([o].map iV) := by rw [← hA31]; exact getC_new A30 0 _
    have rL2 : Rd A31 (.sl A30.length 0 0 1 1) ([o].map iV) := getC_sl wL2
    simp only [iV] at hA31
    have sa := kA31.s sa
    have sb := kA31.s sb
    have su := kA31.s su
    have st1 := kA31.s st1
    have ss1 := kA31.s ss1
    obtain ⟨A32, eA32, st2, kx, lA32⟩ := of_P h.toTB 0 (H := A31) (v := (.sl A30.length 0 0 1 1)) (l := [o]) rL2 trivial (by first | omega | decide | simp) hxo (Nat.zero_le _)
    have kA32 := kx.d []
    clear kx
    have sa := kA32.s sa
    have sb := kA32.s sb
    have su := kA32.s su
    have st1 := kA32.s st1
    have ss1 := kA32.s ss1
    have ct2 : cnt (ofP [o] noP) ≤ 1 := Nat.le_trans (cnt_of hxo) (by first | omega | decide | simp)
    have dt2 := SetW.lt st2
    obtain ⟨is2, js2, qs2, A33, eA33, ss2, kA33, gs2, us2, mA33, zs2⟩ := store_P h hS sa (by omega) sb (by omega) st2 (by omega) o ho false
    have sa := kA33.s sa
    have sb := kA33.s sb
    have su := kA33.s su
    have st1 := kA33.s st1
    have ss1 := kA33.s ss1
    have st2 := kA33.s st2
    have cs2 := mA33
    have ds2 := SetW.lt ss2
    have lA33 := kA33.1
    obtain ⟨r22, A34, eA34, zr22, kA34⟩ := same_P h 0 ss2 (by omega) (AtV.set h.toTB su) (LenV.set h.toTB su) (Nat.zero_le _)
    have zr22 := zr22.trans (same_iff ss2.wd su.wd)
    have yr22 : r22 = true := zr22.2 (el_ext ss2.wd su.wd fun x => by rw [zs2, storeL, if_neg (fun e => by rw [e] at hol; simp at hol), if_neg (fun hh => hh ((hoo o).2 rfl)), hu, if_pos (.inr rfl)])
    subst yr22
    have sa := kA34.s sa
    have sb := kA34.s sb
    have su := kA34.s su
    have st1 := kA34.s st1
    have ss1 := kA34.s ss1
    have st2 := kA34.s st2
    have ss2 := kA34.s ss2
    have lA34 := kA34.1
    refine ⟨A34, callW_fn (c := s_gnomonlaw25_UpdateCases) hF (by simp [s_gnomonlaw25_UpdateCases]) ?_⟩
    simp only [s_gnomonlaw25_UpdateCases, a_gnomonlaw25_UpdateCases,s_gnomonlaw25_UpdateCases_l0_b, am0,am1,am2,am3,am4,am5,am6,am7,bl,i64,reduceIte,reduceCtorEq,Nat.reduceEqDiff,Nat.reduceLT,Nat.reduceLeDiff,Nat.reduceBEq,Nat.reduceAdd,fillA,splice,Nat.reduceMul,al0,al1,al2,al3,al4,al5,al6,al7,al8,al9,al10,al11,al12,al13,al14,al15,al16,al17,al18,al19,al20,al21,al22,al23,al24,al25,al26,al27,al28,al29,al30,al31,al32,al33,al34,amY, la, lb, lc, ga, gb, gc, hwk, hloop, g1, eA1, eA2, eA3, eA4, eA5, eA6, hA27, eA28, eA29, eA30, hA31, eA32, eA33, eA34]
    done
end
end Go.Proofs.Ytlclbbieacjmfaa
