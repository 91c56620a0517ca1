/- Texts of the proof: BitsL5. -/
import Derived.Test.YtccallbknpbggaaDoorP0
import Derived.Test.YtccallbknpbggaaDoorP1
import Derived.Test.YtccallbknpbggaaDoorP2
import Derived.Test.YtccallbknpbggaaDoorP3
import Derived.Test.YtccallbknpbggaaDoorP4
set_option linter.all false
set_option maxRecDepth 100000
namespace Go.Proofs.YtccallbknpbggaaDoor
open Go.AM
theorem own_trim {m M : Nat} {H : Heap} {v : V} {l : List V} (h : OwnN m H v l) (hb : ∀ id g n, v = .sl id g 0 n 1 → id < M) (fr : List V) : OwnN m (trim M fr H) v l := by
  rcases h with h | ⟨id, g, c, h1, h2, h3, h4, h5⟩
  · exact .inl h
  · exact .inr ⟨id, g, c, h1, trim_get h2 (hb id g _ h1), h3, h4, h5⟩
section
variable {CT : Nat → Option CFun}
theorem least_loop (h : TD CT) {i0 j0 m m0 : Nat} {vl : V} {all : List Int} (hi0 : i0 < m0) (hj0 : j0 < m0) (hm0 : m0 ≤ m) (hb : ∀ id g n, vl = .sl id g 0 n 1 → id < m) (hl : all.length ≤ 2 ^ 40) (hn : ∀ x ∈ all, x < 2 ^ 63) (hlt : all.Pairwise (· < ·)) :
    ∀ (d i : Nat) (q : WS) (H : Heap), i + d = all.length → SetP H i0 j0 q → el q = all.drop i → OwnN m0 H vl (all.map iV) → m ≤ H.length →
    ∃ en H2 q2, itW (evC (callW CT) itW 0 s_gnomonlaw01_BitsLeast_l0) [] m (frOf 78 [(3, .ref i0 0 0), (4, vl), (5, .s (.int .i64 i))]) H = some (.ext 0, frOf 78 ((3, .ref i0 0 0) :: en), H2) ∧ (∃ a b c, en = [(4, a), (5, b), (21, c)]) ∧ SetP H2 i0 j0 q2 ∧ el q2 = [] := by
  intro d
  induction d with
  | zero =>
    intro i q H hi hq he ho hH
    have : i = all.length := by omega
    subst this
    rw [itW_step]
    simp only [a_gnomonlaw01_BitsLeast,s_gnomonlaw01_BitsLeast_l0_b, am0,am1,am2,am3,am4,am5,am6,am7,bl,i64,reduceIte,reduceCtorEq,Nat.reduceEqDiff,Nat.reduceLT,Nat.reduceLeDiff,Nat.reduceBEq,Nat.reduceAdd,fillA,splice,Nat.reduceMul,al0,al1,al2,al3,al4,al5,al6,al7,al8,al9,al10,al11,al12,al13,al14,al15,al16,al17,al18,al19,al20,al21,al22,al23,al24,al25,al26,al27,al28,al29,al30,al31,al32,al33,al34,amY, iV_len' ho.rd, Int.lt_irrefl]
    exact ⟨_, _, q, rfl, ⟨_, _, _, rfl⟩, hq.trim (by omega) (by omega) _, by rw [he, List.drop_length]⟩
  | succ d ih =>
    intro i q H hi hq he ho hH
    have hil : (i : Int) < (all.length : Int) := by omega
    obtain ⟨x, hx⟩ : ∃ x, all[i]? = some x := ⟨_, List.getElem?_eq_getElem (by omega)⟩
    have hdrop : all.drop i = x :: all.drop (i + 1) := by
      obtain ⟨h1, h2⟩ := List.getElem?_eq_some_iff.1 hx
      rw [List.drop_eq_getElem_cons h1, h2]
    have hxl := hn x (List.mem_of_getElem? hx)
    have hcq : cnt q ≤ 2 ^ 40 := by rw [← el_len, he, List.length_drop]; omega
    obtain ⟨H1, e1, k1⟩ := least_P h 0 hq (by omega) (Nat.zero_le _)
    rw [he, hdrop] at e1
    simp only [leastV] at e1
    have q1 := k1.s hq
    have o1 := k1.o ho
    obtain ⟨a, w1, w2⟩ := iV_at o1.rd o1.wide hx
    have hhas : hasF q.2 x = true := (mem_el hq.wd).1 (by rw [he, hdrop]; simp)
    have e2 := drop_P h.toTC 0 q1 (Nat.zero_le _) (Nat.zero_le _) x hxl (by omega)
    rw [hhas] at e2
    have k2 := putPH_b H1 i0 j0 (dropP q x)
    have q2 := q1.putPH (q1.wd.dropP hxl)
    have l2 := putPH_len H1 i0 j0 (dropP q x)
    generalize putPH H1 i0 j0 (dropP q x) = H2 at e2 k2 q2 l2
    have o2 := k2.o o1 hi0 hj0
    have hel : el (dropP q x) = all.drop (i + 1) := by
      refine rise_ext (el_lt q2.wd) (hlt.sublist (List.drop_sublist _ _)) fun y => ?_
      rw [mem_dropP hq.wd hxl, he, hdrop, List.mem_cons]
      have hp := hlt.sublist (List.drop_sublist i all)
      rw [hdrop, List.pairwise_cons] at hp
      constructor
      · rintro ⟨rfl | h1, h2⟩
        · exact absurd rfl h2
        · exact h1
      · intro h1
        have := hp.1 y h1
        exact ⟨.inr h1, by omega⟩
    have hno : hasF (dropP q x).2 x = false := by
      cases hh : hasF (dropP q x).2 x with
      | false => rfl
      | true => exact absurd rfl ((mem_dropP hq.wd hxl).1 ((mem_el q2.wd).2 hh)).2
    have e3 := fun base => has_P h.toTB base q2 x hxl
    rw [hno] at e3
    have e4 := fun base => len_fun h.len base q2
    have hc2 : cnt (dropP q x) = all.length - 1 - i := by rw [← el_len, hel, List.length_drop]; omega
    rw [hc2] at e4
    have w3 : IntKind.i64.wrap ((all.length : Int) - 1) = ((all.length - 1 : Nat) : Int) := by rw [wrap_i64_id (by omega) (by omega)]; omega
    have w4 : IntKind.i64.wrap (((all.length - 1 : Nat) : Int) - (i : Int)) = ((all.length - 1 - i : Nat) : Int) := by rw [wrap_i64_id (by omega) (by omega)]; omega
    have n1 : (x != x) = false := by simp
    have n2 : (((all.length - 1 - i : Nat) : Int) != ((all.length - 1 - i : Nat) : Int)) = false := by simp
    have hl2 := iV_len' o2.rd
    rw [itW_step]
    simp only [a_gnomonlaw01_BitsLeast,s_gnomonlaw01_BitsLeast_l0_b, am0,am1,am2,am3,am4,am5,am6,am7,bl,i64,reduceIte,reduceCtorEq,Nat.reduceEqDiff,Nat.reduceLT,Nat.reduceLeDiff,Nat.reduceBEq,Nat.reduceAdd,fillA,splice,Nat.reduceMul,al0,al1,al2,al3,al4,al5,al6,al7,al8,al9,al10,al11,al12,al13,al14,al15,al16,al17,al18,al19,al20,al21,al22,al23,al24,al25,al26,al27,al28,al29,al30,al31,al32,al33,al34,amY, iV_len' ho.rd, iV_len' o1.rd, hl2, hil, e1, w1, w2, e2, e3, e4, w3, w4, n1, n2, wrap_pos (n := i) (by omega)]
    have hk1 := k1.1
    exact ih (i + 1) (dropP q x) (trim m (frOf 78 [(3, .ref i0 0 0), (4, vl), (5, .s (.int .i64 ((i + 1 : Nat) : Int)))]) H2) (by omega) (q2.trim (by omega) (by omega) _) hel (own_trim o2 hb _) (trim_le (by omega))
theorem least_law (h : TD CT) (hF : CT k_gnomonlaw01_BitsLeast = some (.code s_gnomonlaw01_BitsLeast)) (hwk : ∀ base H, callW CT (.fn k_gnomonlaw01_wakes [] []) [] base H = some (.s (.bool true), H))
    (va : V) (a : List Int) (hva : ∀ H, Rd H va (a.map iV)) (hwa : Wide1 va) (hna : a.length < 2 ^ 63) (hxa : ∀ x ∈ a, x < 2 ^ 63) :
    ∃ H', callW CT (.fn k_gnomonlaw01_BitsLeast [] []) [va] 0 [] = some (.s (.bool true), H') := by
  suffices hall : ∀ A0 : Heap, ∃ H', callW CT (.fn k_gnomonlaw01_BitsLeast [] []) [va] 0 A0 = some (.s (.bool true), H') from hall []
  intro A0
  have la := fun H => iV_len' (hva H)
  by_cases ha : a.length > 1000
  · have hg : decide ((a.length : Int) > 1000) = true := by simp; omega
    refine ⟨A0, callW_fn (c := s_gnomonlaw01_BitsLeast) hF (by simp [s_gnomonlaw01_BitsLeast]) ?_⟩
    simp only [s_gnomonlaw01_BitsLeast, a_gnomonlaw01_BitsLeast,s_gnomonlaw01_BitsLeast_l0_b, am0,am1,am2,am3,am4,am5,am6,am7,bl,i64,reduceIte,reduceCtorEq,Nat.reduceEqDiff,Nat.reduceLT,Nat.reduceLeDiff,Nat.reduceBEq,Nat.reduceAdd,fillA,splice,Nat.reduceMul,al0,al1,al2,al3,al4,al5,al6,al7,al8,al9,al10,al11,al12,al13,al14,al15,al16,al17,al18,al19,al20,al21,al22,al23,al24,al25,al26,al27,al28,al29,al30,al31,al32,al33,al34,amY, la, hg, hwk]
    done
  have ga : decide ((a.length : Int) > 1000) = false := by simp; omega
  obtain ⟨A1, e1, sx, kx, l1⟩ := of_P h.toTB 0 (H := A0) (v := va) (l := a) (hva _) hwa (by omega) hxa (Nat.zero_le _)
  have cx : cnt (ofP a noP) ≤ 1000 := Nat.le_trans (cnt_of hxa) (by omega)
  obtain ⟨vl, A2, e2, ol, k2⟩ := list_P h 0 sx (by omega) (Nat.zero_le _)
  have sx2 := k2.s sx
  have bl2 := own_lt ol
  have hl2 := k2.1
  have hlen : (el (ofP a noP)).length ≤ 2 ^ 40 := by rw [el_len]; omega
  obtain ⟨en, A3, q2, e3, ⟨a1, b1, c1, rfl⟩, s3, hel⟩ := least_loop h (i0 := A0.length + 1) (j0 := A0.length) (m := A2.length) (m0 := A1.length) (by omega) (by omega) (by omega) bl2 hlen (fun x hx => (el_nn sx.wd hx).2) (el_lt sx.wd) (el (ofP a noP)).length 0 (ofP a noP) A2 (by omega) sx2 rfl ol (Nat.le_refl _)
  rw [show (((0 : Nat) : Nat) : Int) = 0 from rfl] at e3
  have c3 : cnt q2 = 0 := by rw [← el_len, hel]; rfl
  obtain ⟨A4, e4, k4⟩ := least_P h 0 s3 (by omega) (Nat.zero_le _)
  rw [hel] at e4
  simp only [leastV] at e4
  have s4 := k4.s s3
  obtain ⟨r, A5, e5, hr, k5⟩ := same_P h.toTC 0 s4 (by omega) (AtV.nil h.toTB A4) (LenV.nil h.toTB A4) (Nat.zero_le _)
  have hrt : r = true := hr.2 ⟨c3, (in0_iff s4.wd).2 hel⟩
  subst hrt
  refine ⟨A5, callW_fn (c := s_gnomonlaw01_BitsLeast) hF (by simp [s_gnomonlaw01_BitsLeast]) ?_⟩
  simp only [s_gnomonlaw01_BitsLeast, a_gnomonlaw01_BitsLeast,s_gnomonlaw01_BitsLeast_l0_b, am0,am1,am2,am3,am4,am5,am6,am7,bl,i64,reduceIte,reduceCtorEq,Nat.reduceEqDiff,Nat.reduceLT,Nat.reduceLeDiff,Nat.reduceBEq,Nat.reduceAdd,fillA,splice,Nat.reduceMul,al0,al1,al2,al3,al4,al5,al6,al7,al8,al9,al10,al11,al12,al13,al14,al15,al16,al17,al18,al19,al20,al21,al22,al23,al24,al25,al26,al27,al28,al29,al30,al31,al32,al33,al34,amY, la, ga, hwk, e1, e2, e3, e4, e5]
  done
end
end Go.Proofs.YtccallbknpbggaaDoor
