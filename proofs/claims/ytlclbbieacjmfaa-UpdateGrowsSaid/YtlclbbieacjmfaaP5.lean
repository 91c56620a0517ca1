/- Texts of the proof: UpdU1, AmZ, UpdU3, UpdS3, UpdU4, UpdX, UpdU5, UpdU6, UpdS4. -/
import Derived.Test.YtlclbbieacjmfaaP0
import Derived.Test.YtlclbbieacjmfaaP1
import Derived.Test.YtlclbbieacjmfaaP2
import Derived.Test.YtlclbbieacjmfaaP3
import Derived.Test.YtlclbbieacjmfaaP4
set_option linter.all false
set_option maxRecDepth 100000
namespace Go.Proofs.Ytlclbbieacjmfaa
open Go.AM
def storeL (t : List Int) (o : Int) (single : Bool) (P R : Prop) : Prop := if t = [] then False else if o ∉ t then P else if t.length > 1 ∨ single = false then P ∨ R else R
section
variable {CT : Nat → Option CFun}
theorem of_nil (h : TB CT) (H : Heap) : ∃ H', callW CT (.fn k_bits_Of [] []) [.s (.slice none 0 0)] 0 H = some (.ref (H.length + 1) 0 0, H') ∧ SetP H' (H.length + 1) H.length noP ∧ KeepD H.length [] H H' ∧ H'.length = H.length + 2 := by
  obtain ⟨H', h1, h2, h3, h4⟩ := of_P h 0 (H := H) (v := nilS) (l := []) (Rd.nil _) trivial (by decide) (fun x hx => by cases hx) (Nat.zero_le _)
  exact ⟨H', h1, h2, h3.d [], h4⟩
theorem store_nil (h : TC CT) (hS : CT k_update_Store = some (.code s_update_Store)) {H : Heap} (pv rv : V) (o : Int) (single : Bool) :
    ∃ i' j' H', callW CT (.fn k_update_Store [] []) [pv, rv, .s (.pointer none), .s (.int .i64 o), .s (.bool single)] 0 H = some (.ref i' 0 0, H') ∧ SetP H' i' j' noP ∧ KeepD H.length [] H H' ∧ H.length ≤ i' ∧ H.length ≤ j' := by
  obtain ⟨A1, e1, s1, k1, l1⟩ := of_nil h.toTB H
  have hl := fun base => len_nil h.len base A1
  rw [show (((0 : Nat) : Nat) : Int) = 0 from rfl] at hl
  refine ⟨_, _, A1, callW_fn (c := s_update_Store) hS (by simp [s_update_Store]) ?_, s1, k1, by omega, by omega⟩
  simp only [s_update_Store, a_update_Store, am0,am1,am2,am3,am4,am5,am6,am7,bl,i64,reduceIte,reduceCtorEq,Nat.reduceEqDiff,Nat.reduceLT,Nat.reduceLeDiff,Nat.reduceBEq,Nat.reduceAdd,fillA,splice,Nat.reduceMul,al0,al1,al2,al3,al4,al5,al6,al7,al8,al9,al10,al11,al12,al13,al14,al15,al16,al17,al18,al19,al20,al21,al22,al23,al24,al25,al26,al27,al28,al29,al30,al31,al32,al33,al34,amY, e1, hl]
  done
theorem store_P (h : TC CT) (hS : CT k_update_Store = some (.code s_update_Store)) {H : Heap} {i j : Nat} {p : WS} (sp : SetP H i j p) (cp : cnt p ≤ 2 ^ 40) {i2 j2 : Nat} {r : WS} (sr : SetP H i2 j2 r) (cr : cnt r ≤ 2 ^ 40) {i3 j3 : Nat} {t : WS} (st : SetP H i3 j3 t) (ct : cnt t ≤ 2 ^ 40) (o : Int) (ho : o < 2 ^ 63) (single : Bool) :
    ∃ i' j' q H', callW CT (.fn k_update_Store [] []) [.ref i 0 0, .ref i2 0 0, .ref i3 0 0, .s (.int .i64 o), .s (.bool single)] 0 H = some (.ref i' 0 0, H') ∧ SetP H' i' j' q ∧ KeepD H.length [] H H' ∧ H.length ≤ i' ∧ H.length ≤ j' ∧ cnt q ≤ cnt p + cnt r ∧ ∀ x, x ∈ el q ↔ storeL (el t) o single (x ∈ el p) (x ∈ el r) := by
  have dp := SetW.lt sp
  have dr := SetW.lt sr
  have dt := SetW.lt st
  obtain ⟨A1, e1, sq, k1, l1⟩ := of_nil h.toTB H
  have cq : cnt noP ≤ 0 := Nat.le_refl _
  have sp := k1.s sp
  have sr := k1.s sr
  have st := k1.s st
  have hlen := fun base => len_fun h.len base st
  have hhas := fun base => has_P h.toTB base st o ho
  have hel : (el t).length = cnt t := el_len t
  by_cases h0 : cnt t = 0
  · have hz : ((cnt t : Int) == 0) = true := by rw [h0]; rfl
    have ht : el t = [] := List.eq_nil_of_length_eq_zero (by omega)
    refine ⟨_, _, _, A1, callW_fn (c := s_update_Store) hS (by simp [s_update_Store]) ?_, sq, k1, by omega, by omega, by omega, fun x => ?_⟩
    · simp only [s_update_Store, a_update_Store, am0,am1,am2,am3,am4,am5,am6,am7,bl,i64,reduceIte,reduceCtorEq,Nat.reduceEqDiff,Nat.reduceLT,Nat.reduceLeDiff,Nat.reduceBEq,Nat.reduceAdd,fillA,splice,Nat.reduceMul,al0,al1,al2,al3,al4,al5,al6,al7,al8,al9,al10,al11,al12,al13,al14,al15,al16,al17,al18,al19,al20,al21,al22,al23,al24,al25,al26,al27,al28,al29,al30,al31,al32,al33,al34,amY, e1, hlen, hz]
      done
    · rw [noP_el, storeL, if_pos ht]; simp
  have hz : ((cnt t : Int) == 0) = false := by
    have : ¬ (cnt t : Int) = 0 := by omega
    simpa using this
  have ht : ¬ el t = [] := by intro e; rw [e] at hel; simp at hel; omega
  cases hq : hasF t.2 o with
  | false =>
    have hm : o ∉ el t := fun hm => by rw [(mem_el st.wd).1 hm] at hq; cases hq
    rw [hq] at hhas
    have mA2 := cnt_uniA sq.wd sp.wd
    obtain ⟨A2, eA2, nq, kA2⟩ := union_P h.toTB 0 sq (Nat.zero_le _) (Nat.zero_le _) sp (.inr ⟨by omega, by omega, by omega, by omega⟩) (by omega) h.union
    have sp := kA2.s sp ⟨by omega, by omega, by omega, by omega⟩
    have sr := kA2.s sr ⟨by omega, by omega, by omega, by omega⟩
    have st := kA2.s st ⟨by omega, by omega, by omega, by omega⟩
    have sq := nq
    clear nq
    have cq := mA2
    have lA2 := kA2.1
    refine ⟨_, _, _, A2, callW_fn (c := s_update_Store) hS (by simp [s_update_Store]) ?_, sq, ⟨by omega, fun id h1 _ => by rw [kA2.2 id (by omega) (by omega) (by omega), k1.2 id h1 (by simp)]⟩, by omega, by omega, by omega, fun x => ?_⟩
    · simp only [s_update_Store, a_update_Store, am0,am1,am2,am3,am4,am5,am6,am7,bl,i64,reduceIte,reduceCtorEq,Nat.reduceEqDiff,Nat.reduceLT,Nat.reduceLeDiff,Nat.reduceBEq,Nat.reduceAdd,fillA,splice,Nat.reduceMul,al0,al1,al2,al3,al4,al5,al6,al7,al8,al9,al10,al11,al12,al13,al14,al15,al16,al17,al18,al19,al20,al21,al22,al23,al24,al25,al26,al27,al28,al29,al30,al31,al32,al33,al34,amY, e1, hlen, hhas, hz, eA2]
      done
    · rw [mem_uniA noP_wd sp.wd, noP_el, storeL, if_neg ht, if_pos hm]; simp
  | true =>
    have hm : ¬ o ∉ el t := fun hm => hm ((mem_el st.wd).2 hq)
    rw [hq] at hhas
    by_cases h1 : cnt t > 1 ∨ single = false
    · have h1' : (bif decide ((cnt t : Int) > 1) then true else !single) = true := by
        rcases h1 with h1 | h1
        · have : decide ((cnt t : Int) > 1) = true := by simp; omega
          rw [this]; rfl
        · rw [h1]; simp
      have mA2 := cnt_uniA sq.wd sp.wd
      obtain ⟨A2, eA2, nq, kA2⟩ := union_P h.toTB 0 sq (Nat.zero_le _) (Nat.zero_le _) sp (.inr ⟨by omega, by omega, by omega, by omega⟩) (by omega) h.union
      have sp := kA2.s sp ⟨by omega, by omega, by omega, by omega⟩
      have sr := kA2.s sr ⟨by omega, by omega, by omega, by omega⟩
      have st := kA2.s st ⟨by omega, by omega, by omega, by omega⟩
      have sq := nq
      clear nq
      have cq := mA2
      have lA2 := kA2.1
      have mA3 := cnt_uniA sq.wd sr.wd
      obtain ⟨A3, eA3, nq, kA3⟩ := union_P h.toTB 0 sq (Nat.zero_le _) (Nat.zero_le _) sr (.inr ⟨by omega, by omega, by omega, by omega⟩) (by omega) h.union
      have sp := kA3.s sp ⟨by omega, by omega, by omega, by omega⟩
      have sr := kA3.s sr ⟨by omega, by omega, by omega, by omega⟩
      have st := kA3.s st ⟨by omega, by omega, by omega, by omega⟩
      have sq := nq
      clear nq
      have cq := mA3
      have lA3 := kA3.1
      refine ⟨_, _, _, A3, callW_fn (c := s_update_Store) hS (by simp [s_update_Store]) ?_, sq, ⟨by omega, fun id h1 _ => by rw [kA3.2 id (by omega) (by omega) (by omega), kA2.2 id (by omega) (by omega) (by omega), k1.2 id h1 (by simp)]⟩, by omega, by omega, by omega, fun x => ?_⟩
      · rcases h1 with h1 | h1
        · have hg : decide ((cnt t : Int) > 1) = true := by simp; omega
          simp only [s_update_Store, a_update_Store, am0,am1,am2,am3,am4,am5,am6,am7,bl,i64,reduceIte,reduceCtorEq,Nat.reduceEqDiff,Nat.reduceLT,Nat.reduceLeDiff,Nat.reduceBEq,Nat.reduceAdd,fillA,splice,Nat.reduceMul,al0,al1,al2,al3,al4,al5,al6,al7,al8,al9,al10,al11,al12,al13,al14,al15,al16,al17,al18,al19,al20,al21,al22,al23,al24,al25,al26,al27,al28,al29,al30,al31,al32,al33,al34,amY, e1, hlen, hhas, hz, hg, eA2, eA3]
          done
        · subst h1
          cases hg : decide ((cnt t : Int) > 1) <;> simp only [s_update_Store, a_update_Store, am0,am1,am2,am3,am4,am5,am6,am7,bl,i64,reduceIte,reduceCtorEq,Nat.reduceEqDiff,Nat.reduceLT,Nat.reduceLeDiff,Nat.reduceBEq,Nat.reduceAdd,fillA,splice,Nat.reduceMul,al0,al1,al2,al3,al4,al5,al6,al7,al8,al9,al10,al11,al12,al13,al14,al15,al16,al17,al18,al19,al20,al21,al22,al23,al24,al25,al26,al27,al28,al29,al30,al31,al32,al33,al34,amY, e1, hlen, hhas, hz, hg, eA2, eA3]
      · rw [mem_uniA (uniA_wd noP_wd sp.wd) sr.wd, mem_uniA noP_wd sp.wd, noP_el, storeL, if_neg ht, if_neg hm, if_pos (by rw [hel]; exact h1)]; simp
    · have hg : decide ((cnt t : Int) > 1) = false := by simp; omega
      have hs : single = true := by cases single <;> simp_all
      subst hs
      have mA2 := cnt_uniA sq.wd sr.wd
      obtain ⟨A2, eA2, nq, kA2⟩ := union_P h.toTB 0 sq (Nat.zero_le _) (Nat.zero_le _) sr (.inr ⟨by omega, by omega, by omega, by omega⟩) (by omega) h.union
      have sp := kA2.s sp ⟨by omega, by omega, by omega, by omega⟩
      have sr := kA2.s sr ⟨by omega, by omega, by omega, by omega⟩
      have st := kA2.s st ⟨by omega, by omega, by omega, by omega⟩
      have sq := nq
      clear nq
      have cq := mA2
      have lA2 := kA2.1
      refine ⟨_, _, _, A2, callW_fn (c := s_update_Store) hS (by simp [s_update_Store]) ?_, sq, ⟨by omega, fun id h1 _ => by rw [kA2.2 id (by omega) (by omega) (by omega), k1.2 id h1 (by simp)]⟩, by omega, by omega, by omega, fun x => ?_⟩
      · simp only [s_update_Store, a_update_Store, am0,am1,am2,am3,am4,am5,am6,am7,bl,i64,reduceIte,reduceCtorEq,Nat.reduceEqDiff,Nat.reduceLT,Nat.reduceLeDiff,Nat.reduceBEq,Nat.reduceAdd,fillA,splice,Nat.reduceMul,al0,al1,al2,al3,al4,al5,al6,al7,al8,al9,al10,al11,al12,al13,al14,al15,al16,al17,al18,al19,al20,al21,al22,al23,al24,al25,al26,al27,al28,al29,al30,al31,al32,al33,al34,amY, e1, hlen, hhas, hz, hg, eA2]
        done
      · rw [mem_uniA noP_wd sr.wd, noP_el, storeL, if_neg ht, if_neg hm, if_neg (by rw [hel]; exact h1)]; simp
end
end Go.Proofs.Ytlclbbieacjmfaa
namespace Go.AM
theorem flat_len {w : Nat} : ∀ (R : List (List V)), (∀ r ∈ R, r.length = w) → R.flatten.length = R.length * w := by
  intro R
  induction R with
  | nil => intro _; simp
  | cons r R ih =>
    intro h
    rw [List.flatten_cons, List.length_append, ih (fun x hx => h x (List.mem_cons_of_mem _ hx)), h r List.mem_cons_self, List.length_cons, Nat.add_mul]
    omega
theorem rows_get {w : Nat} : ∀ (R : List (List V)), (∀ r ∈ R, r.length = w) → ∀ (i : Nat) (r : List V), R[i]? = some r → (R.flatten.drop (i * w)).take w = r := by
  intro R
  induction R with
  | nil => intro _ i r h; simp at h
  | cons s R ih =>
    intro h i r hr
    have hs := h s List.mem_cons_self
    cases i with
    | zero =>
      simp only [List.getElem?_cons_zero, Option.some.injEq] at hr
      subst hr
      rw [Nat.zero_mul, List.drop_zero, List.flatten_cons, ← hs, List.take_left]
    | succ i =>
      simp only [List.getElem?_cons_succ] at hr
      rw [List.flatten_cons, show (i + 1) * w = s.length + i * w by rw [hs, Nat.add_mul]; omega, List.drop_append, List.drop_eq_nil_of_le (by omega), List.nil_append, Nat.add_sub_cancel_left]
      exact ih (fun x hx => h x (List.mem_cons_of_mem _ hx)) i r hr
structure RdW (w : Nat) (H : Heap) (v : V) (R : List (List V)) : Prop where
  el : elems H w v = some (R.length, R.flatten)
  len : xLen H .s v = some (.s (.int .i64 R.length))
  one : v.one = true
  at' : ∀ (i : Nat) (r : List V), R[i]? = some r → ∃ a, xIndexAddr w v (.s (.int .i64 i)) = some a ∧ xLoad H true w a = some (.agg r) ∧ ∀ (o : Nat) (x : V), r[o]? = some x → ∃ b, xFieldAddr o a = some b ∧ xLoad H false 1 b = some x
theorem RdW.nil (w : Nat) (H : Heap) : RdW w H nilS [] := ⟨rfl, rfl, rfl, fun i r h => by simp at h⟩
theorem take_one {r : List V} {o : Nat} {x : V} (h : r[o]? = some x) : (r.drop o).take 1 = [x] := by
  obtain ⟨ho, rfl⟩ := List.getElem?_eq_some_iff.1 h
  rw [List.drop_eq_getElem_cons ho]
  rfl
theorem RdW.psl {w : Nat} (H : Heap) {R : List (List V)} (hR : ∀ r ∈ R, r.length = w) : RdW w H (.psl R w) R := by
  refine ⟨by simp [elems], rfl, rfl, fun i r h => ⟨.pref r, ?_, ?_, fun o x hx => ⟨.pref (r.drop o), ?_, ?_⟩⟩⟩
  · rw [xi_psl, if_pos ⟨by omega, rfl⟩, Int.toNat_natCast, h]
    rfl
  · have := hR r (List.mem_of_getElem? h)
    rw [xo_pref, List.take_of_length_le (by omega), if_pos this, shut_agg]
  · rw [xa_pref, if_pos (by have := (List.getElem?_eq_some_iff.1 hx).1; omega)]
  · rw [xo_pref, take_one hx, if_pos (by rfl), shut_one]
theorem RdW.sl {w : Nat} {H : Heap} {id g : Nat} {R : List (List V)} (hc : getC H id g = some R.flatten) (hR : ∀ r ∈ R, r.length = w) : RdW w H (.sl id g 0 R.length w) R := by
  have hl := flat_len R hR
  refine ⟨?_, rfl, rfl, fun i r h => ?_⟩
  · simp only [elems, if_true, hc, List.drop_zero, ← hl, List.take_length]
  · have hr := hR r (List.mem_of_getElem? h)
    have hi := (List.getElem?_eq_some_iff.1 h).1
    have hg := rows_get R hR i r h
    refine ⟨.ref id g (0 + i * w), ?_, ?_, fun o x hx => ⟨.ref id g (0 + i * w + o), rfl, ?_⟩⟩
    · rw [xi_sl, if_pos ⟨by omega, by omega, rfl⟩, Int.toNat_natCast]
    · rw [xo_ref, hc, Nat.zero_add]
      simp only [hg, hr, if_true, shut_agg]
    · have ho := (List.getElem?_eq_some_iff.1 hx).1
      have e : (R.flatten.drop (0 + i * w + o)).take 1 = [x] := by
        have h2 := take_one hx
        rw [← hg, List.drop_take, List.drop_drop, List.take_take, Nat.min_eq_left (by omega)] at h2
        rw [Nat.zero_add]
        exact h2
      rw [xo_ref, hc]
      simp only [e, List.length_singleton, if_true, shut_one]
def AccW (m w : Nat) (H : Heap) (v : V) (R : List (List V)) : Prop := (∀ r ∈ R, r.length = w) ∧ ((R = [] ∧ v = nilS) ∨ ∃ id g, v = .sl id g 0 R.length w ∧ getC H id g = some R.flatten ∧ m ≤ id)
theorem AccW.start (m w : Nat) (H : Heap) : AccW m w H nilS [] := ⟨fun r h => by simp at h, .inl ⟨rfl, rfl⟩⟩
theorem AccW.rd {m w : Nat} {H : Heap} {v : V} {R : List (List V)} (h : AccW m w H v R) : RdW w H v R := by
  obtain ⟨hR, ⟨rfl, rfl⟩ | ⟨id, g, rfl, hc, _⟩⟩ := h
  · exact RdW.nil w H
  · exact RdW.sl hc hR
theorem AccW.keep {m w : Nat} {H H' : Heap} {v : V} {R : List (List V)} (h : AccW m w H v R) (hk : ∀ id g n, v = .sl id g 0 n w → H'[id]? = H[id]?) : AccW m w H' v R := by
  obtain ⟨hR, h | ⟨id, g, rfl, hc, hm⟩⟩ := h
  · exact ⟨hR, .inl h⟩
  · refine ⟨hR, .inr ⟨id, g, rfl, ?_, hm⟩⟩
    unfold getC at hc ⊢
    rw [hk id g _ rfl]
    exact hc
theorem AccW.lt {m w : Nat} {H : Heap} {v : V} {R : List (List V)} (h : AccW m w H v R) : ∀ id g n, v = .sl id g 0 n w → id < H.length := by
  obtain ⟨_, ⟨_, rfl⟩ | ⟨id, g, rfl, hc, hm⟩⟩ := h
  · intro id g n e; cases e
  · intro id' g' n e
    cases e
    exact getC_lt hc
theorem AccW.d {m w : Nat} {H H' : Heap} {v : V} {R : List (List V)} (h : AccW m w H v R) (k : KeepD H.length [] H H') : AccW m w H' v R := h.keep fun id g n e => k.2 id (h.lt id g n e) (by simp)
def Plain1 (R : List (List V)) : Prop := ∀ r ∈ R, ∃ x xs, r = .s x :: xs
theorem AccW.apart {m w : Nat} {H : Heap} {v : V} {R : List (List V)} (h : AccW m w H v R) (hp : Plain1 R) {i j : Nat} {p : WS} (hs : SetP H i j p) : ∀ id g n, v = .sl id g 0 n w → id ≠ i ∧ id ≠ j := by
  obtain ⟨hR, ⟨_, rfl⟩ | ⟨id, g, rfl, hc, hm⟩⟩ := h
  · intro id g n e; cases e
  · intro id' g' n e
    cases e
    refine ⟨fun e => ?_, fun e => ?_⟩
    · subst e
      have hb := SetW.box hs
      unfold getC at hc hb
      cases ho : H[id]? with
      | none => rw [ho] at hb; cases hb
      | some o =>
        rw [ho] at hb hc
        cases o with
        | cells g2 c =>
          dsimp only at hb hc
          split at hb
          · split at hc
            · cases hb
              cases R with
              | nil => simp at hc
              | cons r R =>
                obtain ⟨x, xs, rfl⟩ := hp r List.mem_cons_self
                simp at hc
            · cases hc
          · cases hb
        | map _ => cases hb
        | loop _ _ _ _ _ _ => cases hb
        | dead => cases hb
    · subst e
      have hb := SetW.map hs
      unfold getC at hc
      rw [hb] at hc
      cases hc
theorem AccW.append {m w : Nat} {H : Heap} {v : V} {R : List (List V)} (h : AccW m w H v R) {base bytes : Nat} (hb : base ≤ m) (hm : m ≤ H.length) {S : List (List V)} (hS : ∀ r ∈ S, r.length = w) (h0 : S ≠ []) {x : V} (hx : elems H w x = some (S.length, S.flatten)) (ho : S.flatten.all V.one = true) (hs : (R.length + S.length) * bytes ≤ 2 ^ 47) :
    ∃ v' H', appendV H base w bytes v x = some (v', H') ∧ AccW m w H' v' (R ++ S) ∧ H.length ≤ H'.length ∧ (∀ id, id < H.length → (∀ g n, v ≠ .sl id g 0 n w) → H'[id]? = H[id]?) := by
  have hn : ¬ S.length = 0 := fun e => h0 (List.eq_nil_of_length_eq_zero e)
  have hRS : ∀ r ∈ R ++ S, r.length = w → r.length = w := fun _ _ e => e
  obtain ⟨hR, ⟨rfl, rfl⟩ | ⟨id, g, rfl, hc, hid⟩⟩ := h
  · have hs' : S.length * bytes ≤ 2 ^ 47 := by simpa using hs
    refine ⟨.sl H.length 0 0 S.length w, H ++ [.cells 0 S.flatten], ?_, ⟨?_, .inr ⟨H.length, 0, by simp, ?_, hm⟩⟩, by simp, fun id hid _ => List.getElem?_append_left hid⟩
    · simp only [appendV, hx, ho, if_true, nilS, hn, if_false, hs']
    · simpa using hS
    · rw [List.nil_append]; exact getC_new H 0 _
  · have hlt := getC_lt hc
    have hbi : base ≤ id := by omega
    have hl := flat_len R hR
    refine ⟨.sl id (g + 1) 0 (R.length + S.length) w, H.set id (.cells (g + 1) (R.flatten ++ S.flatten)), ?_, ⟨?_, .inr ⟨id, g + 1, by simp, ?_, hid⟩⟩, by simp, fun id' hid' hne => ?_⟩
    · have h2 : 0 + R.length * w ≤ R.flatten.length := by omega
      simp only [appendV, hx, ho, if_true, true_and, hbi, hc, h2, hn, if_false, hs, List.drop_zero]
      rw [List.take_of_length_le (by omega)]
    · intro r hr
      rcases List.mem_append.1 hr with hr | hr
      · exact hR r hr
      · exact hS r hr
    · rw [List.flatten_append]
      exact getC_set hc _
    · rw [List.getElem?_set_ne]
      rintro rfl
      exact hne g _ rfl
theorem AccW.trim_eq {m w L : Nat} {H : Heap} {v : V} {R : List (List V)} (h : AccW m w H v R) (h0 : R ≠ []) (hL : L ≤ m) {fr : List V} (hv : v ∈ fr) : trim L fr H = H := by
  obtain ⟨_, ⟨rfl, _⟩ | ⟨id, g, rfl, hc, hid⟩⟩ := h
  · exact absurd rfl h0
  · rcases trim_or L fr H with e | ⟨_, hu⟩
    · exact e
    · have := hu _ hv
      simp only [idsUnder, decide_eq_true_eq] at this
      omega
theorem AccW.trim_or {m w L : Nat} {H : Heap} {v : V} {R : List (List V)} (h : AccW m w H v R) (hL : L ≤ m) {fr : List V} (hv : v ∈ fr) : R = [] ∧ v = nilS ∨ trim L fr H = H := by
  obtain ⟨_, h | ⟨id, g, rfl, hc, hid⟩⟩ := h
  · exact .inl h
  · rcases Go.AM.trim_or L fr H with e | ⟨_, hu⟩
    · exact .inr e
    · have := hu _ hv
      simp only [idsUnder, decide_eq_true_eq] at this
      omega
theorem AccW.append0 {m w : Nat} {H : Heap} {v : V} {R : List (List V)} (h : AccW m w H v R) {base bytes : Nat} (hb : base ≤ m) (hm : m ≤ H.length) {S : List (List V)} (hS : ∀ r ∈ S, r.length = w) {x : V} (hx : elems H w x = some (S.length, S.flatten)) (ho : S.flatten.all V.one = true) (hs : (R.length + S.length) * bytes ≤ 2 ^ 47) :
    ∃ v' H', appendV H base w bytes v x = some (v', H') ∧ AccW m w H' v' (R ++ S) ∧ H.length ≤ H'.length ∧ (∀ id, id < H.length → (∀ g n, v ≠ .sl id g 0 n w) → H'[id]? = H[id]?) := by
  by_cases h0 : S = []
  · subst h0
    refine ⟨v, H, ?_, by rw [List.append_nil]; exact h, Nat.le_refl _, fun _ _ _ => rfl⟩
    obtain ⟨hR, ⟨rfl, rfl⟩ | ⟨id, g, rfl, hc, hid⟩⟩ := h
    · simp only [appendV, hx, ho, if_true, nilS, List.length_nil]
    · have hl := flat_len R hR
      have h2 : 0 + R.length * w ≤ R.flatten.length := by omega
      have hbi : base ≤ id := by omega
      simp only [appendV, hx, ho, if_true, true_and, hbi, hc, h2, List.length_nil]
  · exact h.append hb hm hS h0 hx ho hs
theorem trim_id (m : Nat) (fr : List V) (H : Heap) {id : Nat} (h : id < m) : (trim m fr H)[id]? = H[id]? := by
  rcases Go.AM.trim_or m fr H with e | ⟨e, _⟩
  · rw [e]
  · rw [e, List.getElem?_take_of_lt h]
theorem RdW.ext {w : Nat} {H H' : Heap} {v : V} {R : List (List V)} (h : RdW w H v R) (k : Ext H H') (hv : (∃ es, v = .psl es w) ∨ v = nilS ∨ ∃ m, AccW m w H v R) : RdW w H' v R := by
  rcases hv with ⟨es, rfl⟩ | rfl | ⟨m, hv⟩
  · refine ⟨?_, h.len, rfl, fun i r hr => ?_⟩
    · exact h.el
    · obtain ⟨a, h1, h2, h3⟩ := h.at' i r hr
      rw [xi_psl] at h1
      split at h1
      · cases he : es[(i : Int).toNat]? with
        | none => rw [he] at h1; cases h1
        | some c =>
          rw [he] at h1
          cases h1
          exact ⟨.pref c, by rw [xi_psl, if_pos (by assumption), he]; rfl, h2, fun o x hx => by
            obtain ⟨b, e1, e2⟩ := h3 o x hx
            refine ⟨b, e1, ?_⟩
            rw [xa_pref] at e1
            split at e1
            · cases e1; exact e2
            · cases e1⟩
      · cases h1
  · exact ⟨h.el, h.len, rfl, fun i r hr => by
      obtain ⟨a, h1, _⟩ := h.at' i r hr
      cases h1⟩
  · exact (hv.d (k.d [])).rd
end Go.AM
set_option maxRecDepth 100000
namespace Go.Proofs.Ytlclbbieacjmfaa
open Go.AM
def uniS (qs : List WS) (p : WS) : WS := qs.foldl uniA p
theorem mem_uniS : ∀ (qs : List WS) (p : WS), (∀ q ∈ qs, WdP q) → WdP p → ∀ x, x ∈ el (uniS qs p) ↔ x ∈ el p ∨ ∃ q ∈ qs, x ∈ el q := by
  intro qs
  induction qs with
  | nil => intro p _ h x; simp [uniS]
  | cons q qs ih =>
    intro p hq h x
    have := ih (uniA p q) (fun x hx => hq x (List.mem_cons_of_mem _ hx)) (uniA_wd h (hq q List.mem_cons_self)) x
    rw [show uniS (q :: qs) p = uniS qs (uniA p q) from rfl, this, mem_uniA h (hq q List.mem_cons_self)]
    simp [or_assoc]
theorem cnt_uniS : ∀ (qs : List WS) (p : WS), (∀ q ∈ qs, WdP q ∧ cnt q ≤ 2 ^ 20) → WdP p → cnt (uniS qs p) ≤ cnt p + qs.length * 2 ^ 20 := by
  intro qs
  induction qs with
  | nil => intro p _ _; simp [uniS]
  | cons q qs ih =>
    intro p hq h
    have h1 := ih (uniA p q) (fun x hx => hq x (List.mem_cons_of_mem _ hx)) (uniA_wd h (hq q List.mem_cons_self).1)
    have h2 := cnt_uniA h (hq q List.mem_cons_self).1
    have h3 := (hq q List.mem_cons_self).2
    rw [show uniS (q :: qs) p = uniS qs (uniA p q) from rfl, List.length_cons, Nat.add_mul]
    omega
theorem uniS_snoc (qs : List WS) (q p : WS) : uniS (qs ++ [q]) p = uniA (uniS qs p) q := by simp [uniS, List.foldl_append]
theorem set_snoc (H : Heap) (a b : Ob) : (H ++ [a]).set H.length b = H ++ [b] := by simp
section
variable {CT : Nat → Option CFun}
theorem call_loop (h : TC CT) {io jo m ia : Nat} {v : V} {H0 : Heap} {R : List (List V)} {qs : List WS} (hm : H0.length = m) (hio : io < m) (hjo : jo < m) (hqs : qs.length = R.length) (hn : R.length ≤ 2 ^ 20)
    (hq : ∀ q ∈ qs, WdP q ∧ cnt q ≤ 2 ^ 20)
    (hv : ∀ H, KeepB m io jo H0 H → RdW 2 H v R)
    (hr : ∀ (k : Nat) (r : List V) (q : WS), R[k]? = some r → qs[k]? = some q → ∃ (b : Bool) (u : V) (i j : Nat), r = [.s (.bool b), u] ∧ u.one = true ∧ (if b then u else V.ref ia 0 0) = .ref i 0 0 ∧ SetP H0 i j q ∧ i ≠ io ∧ i ≠ jo ∧ j ≠ io ∧ j ≠ jo) :
    ∀ (d k : Nat) (H : Heap), k + d = R.length → SetP H io jo (uniS (qs.take k) noP) → KeepB m io jo H0 H →
    ∃ H2, itW (evC (callW CT) itW 0 s_update_Call_l0) [] m (frOf 26 [(0, .ref ia 0 0), (5, .ref io 0 0), (10, v), (11, .s (.int .i64 R.length)), (12, .s (.int .i64 k))]) H = some (.ext 0, frOf 26 [(0, .ref ia 0 0), (5, .ref io 0 0), (10, v), (11, .s (.int .i64 R.length)), (12, .s (.int .i64 R.length)), (13, .s (.bool false))], H2) ∧ SetP H2 io jo (uniS qs noP) ∧ KeepB m io jo H0 H2 := by
  intro d
  induction d with
  | zero =>
    intro k H hk hP hK
    have hk' : k = R.length := by omega
    subst hk'
    rw [← hqs, List.take_length] at hP
    rw [itW_step]
    simp only [a_update_Call,s_update_Call_l0_b, am0,am1,am2,am3,am4,am5,am6,am7,bl,i64,reduceIte,reduceCtorEq,Nat.reduceEqDiff,Nat.reduceLT,Nat.reduceLeDiff,Nat.reduceBEq,Nat.reduceAdd,fillA,splice,Nat.reduceMul,al0,al1,al2,al3,al4,al5,al6,al7,al8,al9,al10,al11,al12,al13,al14,al15,al16,al17,al18,al19,al20,al21,al22,al23,al24,al25,al26,al27,al28,al29,al30,al31,al32,al33,al34,amY, Int.lt_irrefl]
    exact ⟨_, rfl, hP.trim hio hjo _, hK.trim (Nat.le_refl _) _⟩
  | succ d ih =>
    intro k H hk hP hK
    have hkl : k < R.length := by omega
    have hlt : (k : Int) < (R.length : Int) := by omega
    have hwp := wrap_pos (n := k) (by omega)
    obtain ⟨q, hqk⟩ : ∃ q, qs[k]? = some q := ⟨qs[k]'(by omega), List.getElem?_eq_getElem _⟩
    obtain ⟨r, hrk⟩ : ∃ r, R[k]? = some r := ⟨R[k]'(by omega), List.getElem?_eq_getElem _⟩
    obtain ⟨b, u, i, j, rfl, hu1, hsel, hS, n1, n2, n3, n4⟩ := hr k r q hrk hqk
    obtain ⟨a, ha1, ha2, _⟩ := (hv H hK).at' k _ hrk
    have hqm := List.mem_of_getElem? hqk
    have hqw := hq q hqm
    have hdS := SetW.lt hS
    have hSH : SetP H i j q := hS.keep (hK.2 i (by omega) n1 n2) (hK.2 j (by omega) n3 n4)
    have hsub : ∀ x ∈ qs.take k, WdP x ∧ cnt x ≤ 2 ^ 20 := fun x hx => hq x (List.mem_of_mem_take hx)
    have hc := cnt_uniS (qs.take k) noP hsub noP_wd
    rw [noP_cnt, List.length_take] at hc
    have hmin : min k qs.length ≤ 2 ^ 20 := by omega
    have hc2 : cnt (uniS (qs.take k) noP) ≤ 2 ^ 40 := Nat.le_trans hc (by omega)
    have hKl := hK.1
    obtain ⟨B, eB, nB, kB⟩ := union_P h.toTB 0 (hP.app [Ob.cells 0 [.s (.bool b), u]]) (Nat.zero_le _) (Nat.zero_le _) (hSH.app [Ob.cells 0 [.s (.bool b), u]]) (.inr ⟨n1, n2, n3, n4⟩) (by omega) h.union
    have kB' : KeepB m io jo H0 B := ⟨by have := kB.1; simp at this; omega, fun id h1 h2 h3 => by
      rw [kB.2 id (by simp; omega) h2 h3, List.getElem?_append_left (by omega), hK.2 id h1 h2 h3]⟩
    have hnx : uniS (qs.take (k + 1)) noP = uniA (uniS (qs.take k) noP) q := by
      rw [List.take_add_one, hqk, Option.toList_some, uniS_snoc]
    rw [← hnx] at nB
    obtain ⟨H2, e2, s2, k2⟩ := ih (k + 1) (trim m (frOf 26 [(0, .ref ia 0 0), (5, .ref io 0 0), (10, v), (11, .s (.int .i64 R.length)), (12, .s (.int .i64 (k + 1 : Nat)))]) B) (by omega) (nB.trim hio hjo _) (kB'.trim (Nat.le_refl _) _)
    refine ⟨H2, ?_, s2, k2⟩
    rw [itW_step]
    have hsn := set_snoc H (Ob.cells 0 [.s (.bool false), .s (.pointer none)]) (Ob.cells 0 [.s (.bool b), u])
    cases b with
    | true =>
      rw [if_pos rfl] at hsel
      subst hsel
      simp only [a_update_Call,s_update_Call_l0_b, am0,am1,am2,am3,am4,am5,am6,am7,bl,i64,reduceIte,reduceCtorEq,Nat.reduceEqDiff,Nat.reduceLT,Nat.reduceLeDiff,Nat.reduceBEq,Nat.reduceAdd,fillA,splice,Nat.reduceMul,al0,al1,al2,al3,al4,al5,al6,al7,al8,al9,al10,al11,al12,al13,al14,al15,al16,al17,al18,al19,al20,al21,al22,al23,al24,al25,al26,al27,al28,al29,al30,al31,al32,al33,al34,amY, hlt, ha1, ha2, hwp, hsn, Nat.zero_le, eB, e2]
      done
    | false =>
      rw [if_neg (by decide)] at hsel
      cases hsel
      simp only [a_update_Call,s_update_Call_l0_b, am0,am1,am2,am3,am4,am5,am6,am7,bl,i64,reduceIte,reduceCtorEq,Nat.reduceEqDiff,Nat.reduceLT,Nat.reduceLeDiff,Nat.reduceBEq,Nat.reduceAdd,fillA,splice,Nat.reduceMul,al0,al1,al2,al3,al4,al5,al6,al7,al8,al9,al10,al11,al12,al13,al14,al15,al16,al17,al18,al19,al20,al21,al22,al23,al24,al25,al26,al27,al28,al29,al30,al31,al32,al33,al34,amY, hlt, ha1, ha2, hwp, hsn, Nat.zero_le, eB, e2, hu1]
      done
theorem call_P (h : TC CT) (hC : CT k_update_Call = some (.code s_update_Call)) {ia : Nat} {H : Heap} {v : V} {R : List (List V)} {qs : List WS} (hqs : qs.length = R.length) (hn : R.length ≤ 2 ^ 20) (hq : ∀ q ∈ qs, WdP q ∧ cnt q ≤ 2 ^ 20) (hv : ∀ H', KeepD H.length [] H H' → RdW 2 H' v R)
    (hr : ∀ (k : Nat) (r : List V) (q : WS), R[k]? = some r → qs[k]? = some q → ∃ (b : Bool) (u : V) (i j : Nat), r = [.s (.bool b), u] ∧ u.one = true ∧ (if b then u else V.ref ia 0 0) = .ref i 0 0 ∧ SetP H i j q) :
    ∃ i j H', callW CT (.fn k_update_Call [] []) [.ref ia 0 0, v] 0 H = some (.ref i 0 0, H') ∧ SetP H' i j (uniS qs noP) ∧ KeepD H.length [] H H' ∧ H.length ≤ i ∧ H.length ≤ j := by
  obtain ⟨A1, e1, s1, k1, l1⟩ := of_nil h.toTB H
  obtain ⟨A2, e2, s2, k2⟩ := call_loop h (io := H.length + 1) (jo := H.length) (m := A1.length) (ia := ia) (v := v) (H0 := A1) (R := R) (qs := qs) rfl (by omega) (by omega) hqs hn hq
    (fun H' hK => hv H' ⟨by have := hK.1; omega, fun id h1 _ => by rw [hK.2 id (by omega) (by omega) (by omega), k1.2 id h1 (by simp)]⟩)
    (fun k r q hk1 hk2 => by
      obtain ⟨b, u, i, j, hr1, hr2, hr3, hr4⟩ := hr k r q hk1 hk2
      have := SetW.lt hr4
      exact ⟨b, u, i, j, hr1, hr2, hr3, k1.s hr4, by omega, by omega, by omega, by omega⟩)
    R.length 0 A1 (by omega) (by simpa [uniS] using s1) ⟨Nat.le_refl _, fun _ _ _ _ => rfl⟩
  have hl2 := k2.1
  have hlen := (hv A1 k1).len
  rw [show (((0 : Nat) : Nat) : Int) = 0 from rfl] at e2
  refine ⟨H.length + 1, H.length, A2, ?_, s2, ⟨by omega, fun id h1 _ => by rw [k2.2 id (by omega) (by omega) (by omega), k1.2 id h1 (by simp)]⟩, by omega, by omega⟩
  refine callW_fn (c := s_update_Call) hC (by simp [s_update_Call]) ?_
  simp only [s_update_Call, a_update_Call,s_update_Call_l0_b, am0,am1,am2,am3,am4,am5,am6,am7,bl,i64,reduceIte,reduceCtorEq,Nat.reduceEqDiff,Nat.reduceLT,Nat.reduceLeDiff,Nat.reduceBEq,Nat.reduceAdd,fillA,splice,Nat.reduceMul,al0,al1,al2,al3,al4,al5,al6,al7,al8,al9,al10,al11,al12,al13,al14,al15,al16,al17,al18,al19,al20,al21,al22,al23,al24,al25,al26,al27,al28,al29,al30,al31,al32,al33,al34,amY, e1, hlen, e2]
  done
end
end Go.Proofs.Ytlclbbieacjmfaa
set_option maxRecDepth 100000
namespace Go.Proofs.Ytlclbbieacjmfaa
open Go.AM
abbrev k_gnomonlaw25_UpdateOrder : Nat := 4
def s_gnomonlaw25_UpdateOrder_r0_k : List Nat := [2, 3, 4, 5, 6, 7, 8, 9, 10, 11, 12, 13, 14, 15, 16, 17, 18, 19, 20, 21, 22, 23, 24, 25, 26, 27, 28, 29, 30, 31, 32, 33, 34, 35, 36, 37, 38, 39, 40, 41, 42, 43, 44, 45, 46, 47, 48, 49, 50, 51, 52, 53, 54, 55, 56, 57, 58, 59, 60, 61, 62, 63, 64, 65, 66, 67, 68, 69, 70, 71, 72, 73, 74, 75, 76, 77, 78, 79, 80]
theorem s_gnomonlaw25_UpdateOrder_r0_kT : killV s_gnomonlaw25_UpdateOrder_r0_k (startV 81 [] 2) = [] := by kernel_rfl
theorem s_gnomonlaw25_UpdateOrder_r0_kA0 : s_gnomonlaw25_UpdateOrder_r0_k.contains 0 = false := by kernel_rfl
theorem s_gnomonlaw25_UpdateOrder_r0_kA1 : s_gnomonlaw25_UpdateOrder_r0_k.contains 1 = false := by kernel_rfl
def s_gnomonlaw25_UpdateOrder_r0 : List AOper := [
  ⟨some 4, (.move (.c (.s (.bool false)))), none⟩]
theorem s_gnomonlaw25_UpdateOrder_r0_tale (fr : List V) (H : Heap) : evTale (symAll s_gnomonlaw25_UpdateOrder_r0 s_gnomonlaw25_UpdateOrder_r0_k []) s_gnomonlaw25_UpdateOrder_r0_k fr H = evTale (some (5, [], [])) s_gnomonlaw25_UpdateOrder_r0_k fr H := tale_row (items := [.cc (.s (.bool false))]) (by kernel_rfl) fr H
def s_gnomonlaw25_UpdateOrder_r1t1 : List AOper := [⟨some 14, (.call (.c (.fn 6 [] [])) [(.t 12), (.c (.s (.slice none 0 0))), (.c (.s (.slice none 0 0))), (.t 13)]), none⟩]
def s_gnomonlaw25_UpdateOrder_r1p0 : List AOper := [⟨some 12, (.move (.t 0)), none⟩, ⟨some 13, (.move (.t 1)), none⟩]
def s_gnomonlaw25_UpdateOrder_r1 : List AOper := s_gnomonlaw25_UpdateOrder_r1p0 ++ s_gnomonlaw25_UpdateOrder_r1t1
theorem s_gnomonlaw25_UpdateOrder_r1p0_tale (fr : List V) (H : Heap) : evTale (symAll s_gnomonlaw25_UpdateOrder_r1p0 [] [12, 13]) [] fr H = evTale (some (14, [], [(12, (.t 0)), (13, (.t 1))])) [] fr H := tale_row (items := [.tt 0, .tt 1]) (by kernel_rfl) fr H
theorem s_gnomonlaw25_UpdateOrder_r1_x (call : CallF) (it : IterF) (base : Nat) (f : List V) (H : Heap) : evC call it base (.region s_gnomonlaw25_UpdateOrder_r1 [] [12, 13]) f H = segC call it base s_gnomonlaw25_UpdateOrder_r1t1 [12, 13] H (evTale (symAll s_gnomonlaw25_UpdateOrder_r1p0 [] [12, 13]) [] f H) (origRow call it base s_gnomonlaw25_UpdateOrder_r1 [12, 13] f H) := row_seg call it base s_gnomonlaw25_UpdateOrder_r1p0 s_gnomonlaw25_UpdateOrder_r1t1 (by kernel_rfl) f H
theorem s_gnomonlaw25_UpdateOrder_r1t1_x (call : CallF) (it : IterF) (base : Nat) (f : List V) (H : Heap) : evC call it base (.region s_gnomonlaw25_UpdateOrder_r1t1 [] [12, 13]) f H = opsC [] s_gnomonlaw25_UpdateOrder_r1t1 [12, 13] (evOps call base [⟨some 14, (.call (.c (.fn 6 [] [])) [(.t 12), (.c (.s (.slice none 0 0))), (.c (.s (.slice none 0 0))), (.t 13)]), none⟩] f H) := row_ops call it base _ _ _ f H
def s_gnomonlaw25_UpdateOrder_r2t1 : List AOper := [⟨some 4, (.move (.t 15)), none⟩]
def s_gnomonlaw25_UpdateOrder_r2p0 : List AOper := [⟨some 15, (.call (.c (.fn 7 [] [])) []), none⟩]
def s_gnomonlaw25_UpdateOrder_r2 : List AOper := s_gnomonlaw25_UpdateOrder_r2p0 ++ s_gnomonlaw25_UpdateOrder_r2t1
theorem s_gnomonlaw25_UpdateOrder_r2_x (call : CallF) (it : IterF) (base : Nat) (f : List V) (H : Heap) : evC call it base (.region s_gnomonlaw25_UpdateOrder_r2 [] [0, 1, 14, 15]) f H = thenC call it base (.region s_gnomonlaw25_UpdateOrder_r2t1 [] [0, 1, 14, 15]) (opsC [] s_gnomonlaw25_UpdateOrder_r2p0 [0, 1, 14] (evOps call base [⟨some 15, (.call (.c (.fn 7 [] [])) []), none⟩] f H)) := (row_op call it base s_gnomonlaw25_UpdateOrder_r2p0 s_gnomonlaw25_UpdateOrder_r2t1 (kc := [0, 1, 14]) (by kernel_rfl) f H).trans (by rw [row_ops]; rfl)
theorem s_gnomonlaw25_UpdateOrder_r2t1_tale (fr : List V) (H : Heap) : evTale (symAll s_gnomonlaw25_UpdateOrder_r2t1 [0, 1, 14, 15] [4]) [0, 1, 14, 15] fr H = evTale (some (5, [], [(4, (.t 15))])) [0, 1, 14, 15] fr H := tale_row (items := [.tt 15]) (by kernel_rfl) fr H
theorem s_gnomonlaw25_UpdateOrder_r2t1_x (call : CallF) (it : IterF) (base : Nat) (f : List V) (H : Heap) : evC call it base (.region s_gnomonlaw25_UpdateOrder_r2t1 [] [0, 1, 14, 15]) f H = segL H (evTale (symAll s_gnomonlaw25_UpdateOrder_r2t1 [0, 1, 14, 15] [4]) [0, 1, 14, 15] f H) (origRow call it base s_gnomonlaw25_UpdateOrder_r2t1 [0, 1, 14, 15] f H) := row_last call it base _ f H
def s_gnomonlaw25_UpdateOrder_r3t2 : List AOper := [⟨some 5, (.move (.t 17)), none⟩]
def s_gnomonlaw25_UpdateOrder_r3p1 : List AOper := [⟨some 17, (.call (.c (.fn 8 [] [])) [(.t 16)]), none⟩]
def s_gnomonlaw25_UpdateOrder_r3t1 : List AOper := s_gnomonlaw25_UpdateOrder_r3p1 ++ s_gnomonlaw25_UpdateOrder_r3t2
def s_gnomonlaw25_UpdateOrder_r3p0 : List AOper := [⟨some 16, (.move (.t 0)), none⟩]
def s_gnomonlaw25_UpdateOrder_r3 : List AOper := s_gnomonlaw25_UpdateOrder_r3p0 ++ s_gnomonlaw25_UpdateOrder_r3t1
theorem s_gnomonlaw25_UpdateOrder_r3p0_tale (fr : List V) (H : Heap) : evTale (symAll s_gnomonlaw25_UpdateOrder_r3p0 [0, 14] [16]) [0, 14] fr H = evTale (some (17, [], [(16, (.t 0))])) [0, 14] fr H := tale_row (items := [.tt 0]) (by kernel_rfl) fr H
theorem s_gnomonlaw25_UpdateOrder_r3_x (call : CallF) (it : IterF) (base : Nat) (f : List V) (H : Heap) : evC call it base (.region s_gnomonlaw25_UpdateOrder_r3 [] [0, 14, 16, 17]) f H = segC call it base s_gnomonlaw25_UpdateOrder_r3t1 [0, 14, 16, 17] H (evTale (symAll s_gnomonlaw25_UpdateOrder_r3p0 [0, 14] [16]) [0, 14] f H) (origRow call it base s_gnomonlaw25_UpdateOrder_r3 [0, 14, 16, 17] f H) := row_seg call it base s_gnomonlaw25_UpdateOrder_r3p0 s_gnomonlaw25_UpdateOrder_r3t1 (by kernel_rfl) f H
theorem s_gnomonlaw25_UpdateOrder_r3t1_x (call : CallF) (it : IterF) (base : Nat) (f : List V) (H : Heap) : evC call it base (.region s_gnomonlaw25_UpdateOrder_r3t1 [] [0, 14, 16, 17]) f H = thenC call it base (.region s_gnomonlaw25_UpdateOrder_r3t2 [] [0, 14, 16, 17]) (opsC [] s_gnomonlaw25_UpdateOrder_r3p1 [16] (evOps call base [⟨some 17, (.call (.c (.fn 8 [] [])) [(.t 16)]), none⟩] f H)) := (row_op call it base s_gnomonlaw25_UpdateOrder_r3p1 s_gnomonlaw25_UpdateOrder_r3t2 (kc := [16]) (by kernel_rfl) f H).trans (by rw [row_ops]; rfl)
theorem s_gnomonlaw25_UpdateOrder_r3t2_tale (fr : List V) (H : Heap) : evTale (symAll s_gnomonlaw25_UpdateOrder_r3t2 [0, 14, 16, 17] [5]) [0, 14, 16, 17] fr H = evTale (some (6, [], [(5, (.t 17))])) [0, 14, 16, 17] fr H := tale_row (items := [.tt 17]) (by kernel_rfl) fr H
theorem s_gnomonlaw25_UpdateOrder_r3t2_x (call : CallF) (it : IterF) (base : Nat) (f : List V) (H : Heap) : evC call it base (.region s_gnomonlaw25_UpdateOrder_r3t2 [] [0, 14, 16, 17]) f H = segL H (evTale (symAll s_gnomonlaw25_UpdateOrder_r3t2 [0, 14, 16, 17] [5]) [0, 14, 16, 17] f H) (origRow call it base s_gnomonlaw25_UpdateOrder_r3t2 [0, 14, 16, 17] f H) := row_last call it base _ f H
def s_gnomonlaw25_UpdateOrder_r4t2 : List AOper := [⟨some 6, (.move (.t 19)), none⟩]
def s_gnomonlaw25_UpdateOrder_r4p1 : List AOper := [⟨some 19, (.call (.c (.fn 11 [] [])) [(.t 18)]), none⟩]
def s_gnomonlaw25_UpdateOrder_r4t1 : List AOper := s_gnomonlaw25_UpdateOrder_r4p1 ++ s_gnomonlaw25_UpdateOrder_r4t2
def s_gnomonlaw25_UpdateOrder_r4p0 : List AOper := [⟨some 18, (.move (.t 1)), none⟩]
def s_gnomonlaw25_UpdateOrder_r4 : List AOper := s_gnomonlaw25_UpdateOrder_r4p0 ++ s_gnomonlaw25_UpdateOrder_r4t1
theorem s_gnomonlaw25_UpdateOrder_r4p0_tale (fr : List V) (H : Heap) : evTale (symAll s_gnomonlaw25_UpdateOrder_r4p0 [1] [18]) [1] fr H = evTale (some (19, [], [(18, (.t 1))])) [1] fr H := tale_row (items := [.tt 1]) (by kernel_rfl) fr H
theorem s_gnomonlaw25_UpdateOrder_r4_x (call : CallF) (it : IterF) (base : Nat) (f : List V) (H : Heap) : evC call it base (.region s_gnomonlaw25_UpdateOrder_r4 [] [1, 18, 19]) f H = segC call it base s_gnomonlaw25_UpdateOrder_r4t1 [1, 18, 19] H (evTale (symAll s_gnomonlaw25_UpdateOrder_r4p0 [1] [18]) [1] f H) (origRow call it base s_gnomonlaw25_UpdateOrder_r4 [1, 18, 19] f H) := row_seg call it base s_gnomonlaw25_UpdateOrder_r4p0 s_gnomonlaw25_UpdateOrder_r4t1 (by kernel_rfl) f H
theorem s_gnomonlaw25_UpdateOrder_r4t1_x (call : CallF) (it : IterF) (base : Nat) (f : List V) (H : Heap) : evC call it base (.region s_gnomonlaw25_UpdateOrder_r4t1 [] [1, 18, 19]) f H = thenC call it base (.region s_gnomonlaw25_UpdateOrder_r4t2 [] [1, 18, 19]) (opsC [] s_gnomonlaw25_UpdateOrder_r4p1 [18] (evOps call base [⟨some 19, (.call (.c (.fn 11 [] [])) [(.t 18)]), none⟩] f H)) := (row_op call it base s_gnomonlaw25_UpdateOrder_r4p1 s_gnomonlaw25_UpdateOrder_r4t2 (kc := [18]) (by kernel_rfl) f H).trans (by rw [row_ops]; rfl)
theorem s_gnomonlaw25_UpdateOrder_r4t2_tale (fr : List V) (H : Heap) : evTale (symAll s_gnomonlaw25_UpdateOrder_r4t2 [1, 18, 19] [6]) [1, 18, 19] fr H = evTale (some (7, [], [(6, (.t 19))])) [1, 18, 19] fr H := tale_row (items := [.tt 19]) (by kernel_rfl) fr H
theorem s_gnomonlaw25_UpdateOrder_r4t2_x (call : CallF) (it : IterF) (base : Nat) (f : List V) (H : Heap) : evC call it base (.region s_gnomonlaw25_UpdateOrder_r4t2 [] [1, 18, 19]) f H = segL H (evTale (symAll s_gnomonlaw25_UpdateOrder_r4t2 [1, 18, 19] [6]) [1, 18, 19] f H) (origRow call it base s_gnomonlaw25_UpdateOrder_r4t2 [1, 18, 19] f H) := row_last call it base _ f H
def s_gnomonlaw25_UpdateOrder_r5 : List AOper := [
  ⟨some 7, (.move (.c (.s (.slice none 0 0)))), none⟩]
theorem s_gnomonlaw25_UpdateOrder_r5_tale (fr : List V) (H : Heap) : evTale (symAll s_gnomonlaw25_UpdateOrder_r5 [] [7]) [] fr H = evTale (some (8, [], [(7, (.c (.s (.slice none 0 0))))])) [] fr H := tale_row (items := [.cc (.s (.slice none 0 0))]) (by kernel_rfl) fr H
def s_gnomonlaw25_UpdateOrder_r6 : List AOper := [
  ⟨some 20, (.move (.t 6)), none⟩,
  ⟨some 21, (.lenS .s (.t 20)), none⟩,
  ⟨some 22, (.bin .sub (.t 21) (.c (.s (.int .i64 1)))), none⟩,
  ⟨some 8, (.move (.t 22)), none⟩]
theorem s_gnomonlaw25_UpdateOrder_r6_tale (fr : List V) (H : Heap) : evTale (symAll s_gnomonlaw25_UpdateOrder_r6 [20, 21, 22] [8]) [20, 21, 22] fr H = evTale (some (23, [], [(8, (.op (.bin .sub (.t 0) (.c (.s (.int .i64 1)))) [(.op (.lenS .s (.t 0)) [(.t 6)]), (.c (.s (.int .i64 1)))]))])) [20, 21, 22] fr H := tale_row (items := [.tt 6, .sub 0 [0] [], .sub 0 [] [], .sub 0 [] []]) (by kernel_rfl) fr H
def s_gnomonlaw25_UpdateOrder_r7 : List AOper := [
  ⟨some 23, (.move (.t 8)), none⟩,
  ⟨some 24, (.bin .geq (.t 23) (.c (.s (.int .i64 0)))), none⟩]
theorem s_gnomonlaw25_UpdateOrder_r7_tale (fr : List V) (H : Heap) : evTale (symAll s_gnomonlaw25_UpdateOrder_r7 [23] [24]) [23] fr H = evTale (some (25, [], [(24, (.op (.bin .geq (.t 0) (.c (.s (.int .i64 0)))) [(.t 8), (.c (.s (.int .i64 0)))]))])) [23] fr H := tale_row (items := [.tt 8, .sub 0 [] []]) (by kernel_rfl) fr H
def s_gnomonlaw25_UpdateOrder_r8t3 : List AOper := [⟨some 7, (.move (.t 37)), none⟩]
def s_gnomonlaw25_UpdateOrder_r8p2 : List AOper := [⟨some 37, (.append 2 16 (.t 27) (.t 36)), none⟩]
def s_gnomonlaw25_UpdateOrder_r8t2 : List AOper := s_gnomonlaw25_UpdateOrder_r8p2 ++ s_gnomonlaw25_UpdateOrder_r8t3
def s_gnomonlaw25_UpdateOrder_r8p1 : List AOper := [⟨some 36, (.buildSl 2 2 [(.s (.bool false)), (.s (.pointer none)), (.s (.bool false)), (.s (.pointer none))] [(0, (.t 31)), (1, (.t 35))]), none⟩]
def s_gnomonlaw25_UpdateOrder_r8t1 : List AOper := s_gnomonlaw25_UpdateOrder_r8p1 ++ s_gnomonlaw25_UpdateOrder_r8t2
def s_gnomonlaw25_UpdateOrder_r8p0 : List AOper := [⟨some 27, (.move (.t 7)), none⟩, ⟨some 28, (.move (.t 6)), none⟩, ⟨some 29, (.move (.t 8)), none⟩, ⟨some 30, (.indexAddr 2 (.t 28) (.t 29)), none⟩, ⟨some 31, (.load true 2 (.t 30)), none⟩, ⟨some 32, (.move (.t 6)), none⟩, ⟨some 33, (.move (.t 8)), none⟩, ⟨some 34, (.indexAddr 2 (.t 32) (.t 33)), none⟩, ⟨some 35, (.load true 2 (.t 34)), none⟩]
def s_gnomonlaw25_UpdateOrder_r8 : List AOper := s_gnomonlaw25_UpdateOrder_r8p0 ++ s_gnomonlaw25_UpdateOrder_r8t1
theorem s_gnomonlaw25_UpdateOrder_r8p0_tale (fr : List V) (H : Heap) : evTale (symAll s_gnomonlaw25_UpdateOrder_r8p0 [7, 24, 28, 29, 30, 32, 33, 34] [27, 31, 35]) [7, 24, 28, 29, 30, 32, 33, 34] fr H = evTale (some (36, [], [(27, (.t 7)), (31, (.op (.load true 2 (.t 0)) [(.op (.indexAddr 2 (.t 0) (.t 1)) [(.t 6), (.t 8)])])), (35, (.op (.load true 2 (.t 0)) [(.op (.indexAddr 2 (.t 0) (.t 1)) [(.t 6), (.t 8)])]))])) [7, 24, 28, 29, 30, 32, 33, 34] fr H := tale_row (items := [.tt 7, .tt 6, .tt 8, .sub 1 [0] [], .sub 1 [] [], .tt 6, .tt 8, .sub 1 [0] [], .sub 1 [] []]) (by kernel_rfl) fr H
theorem s_gnomonlaw25_UpdateOrder_r8_x (call : CallF) (it : IterF) (base : Nat) (f : List V) (H : Heap) : evC call it base (.region s_gnomonlaw25_UpdateOrder_r8 [] [24, 27, 28, 29, 30, 31, 32, 33, 34, 35, 36, 37]) f H = segC call it base s_gnomonlaw25_UpdateOrder_r8t1 [24, 27, 28, 29, 30, 31, 32, 33, 34, 35, 36, 37] H (evTale (symAll s_gnomonlaw25_UpdateOrder_r8p0 [7, 24, 28, 29, 30, 32, 33, 34] [27, 31, 35]) [7, 24, 28, 29, 30, 32, 33, 34] f H) (origRow call it base s_gnomonlaw25_UpdateOrder_r8 [24, 27, 28, 29, 30, 31, 32, 33, 34, 35, 36, 37] f H) := row_seg call it base s_gnomonlaw25_UpdateOrder_r8p0 s_gnomonlaw25_UpdateOrder_r8t1 (by kernel_rfl) f H
theorem s_gnomonlaw25_UpdateOrder_r8t1_x (call : CallF) (it : IterF) (base : Nat) (f : List V) (H : Heap) : evC call it base (.region s_gnomonlaw25_UpdateOrder_r8t1 [] [24, 27, 28, 29, 30, 31, 32, 33, 34, 35, 36, 37]) f H = thenC call it base (.region s_gnomonlaw25_UpdateOrder_r8t2 [] [24, 27, 28, 29, 30, 31, 32, 33, 34, 35, 36, 37]) (opsC [] s_gnomonlaw25_UpdateOrder_r8p1 [31, 35] (evOps call base [⟨some 36, (.buildSl 2 2 [(.s (.bool false)), (.s (.pointer none)), (.s (.bool false)), (.s (.pointer none))] [(0, (.t 31)), (1, (.t 35))]), none⟩] f H)) := (row_op call it base s_gnomonlaw25_UpdateOrder_r8p1 s_gnomonlaw25_UpdateOrder_r8t2 (kc := [31, 35]) (by kernel_rfl) f H).trans (by rw [row_ops]; rfl)
theorem s_gnomonlaw25_UpdateOrder_r8t2_x (call : CallF) (it : IterF) (base : Nat) (f : List V) (H : Heap) : evC call it base (.region s_gnomonlaw25_UpdateOrder_r8t2 [] [24, 27, 28, 29, 30, 31, 32, 33, 34, 35, 36, 37]) f H = thenC call it base (.region s_gnomonlaw25_UpdateOrder_r8t3 [] [24, 27, 28, 29, 30, 31, 32, 33, 34, 35, 36, 37]) (opsC [] s_gnomonlaw25_UpdateOrder_r8p2 [27, 36] (evOps call base [⟨some 37, (.append 2 16 (.t 27) (.t 36)), none⟩] f H)) := (row_op call it base s_gnomonlaw25_UpdateOrder_r8p2 s_gnomonlaw25_UpdateOrder_r8t3 (kc := [27, 36]) (by kernel_rfl) f H).trans (by rw [row_ops]; rfl)
theorem s_gnomonlaw25_UpdateOrder_r8t3_tale (fr : List V) (H : Heap) : evTale (symAll s_gnomonlaw25_UpdateOrder_r8t3 [24, 27, 28, 29, 30, 31, 32, 33, 34, 35, 36, 37] [7]) [24, 27, 28, 29, 30, 31, 32, 33, 34, 35, 36, 37] fr H = evTale (some (8, [], [(7, (.t 37))])) [24, 27, 28, 29, 30, 31, 32, 33, 34, 35, 36, 37] fr H := tale_row (items := [.tt 37]) (by kernel_rfl) fr H
theorem s_gnomonlaw25_UpdateOrder_r8t3_x (call : CallF) (it : IterF) (base : Nat) (f : List V) (H : Heap) : evC call it base (.region s_gnomonlaw25_UpdateOrder_r8t3 [] [24, 27, 28, 29, 30, 31, 32, 33, 34, 35, 36, 37]) f H = segL H (evTale (symAll s_gnomonlaw25_UpdateOrder_r8t3 [24, 27, 28, 29, 30, 31, 32, 33, 34, 35, 36, 37] [7]) [24, 27, 28, 29, 30, 31, 32, 33, 34, 35, 36, 37] f H) (origRow call it base s_gnomonlaw25_UpdateOrder_r8t3 [24, 27, 28, 29, 30, 31, 32, 33, 34, 35, 36, 37] f H) := row_last call it base _ f H
def s_gnomonlaw25_UpdateOrder_r9 : List AOper := [
  ⟨some 25, (.move (.t 8)), none⟩,
  ⟨some 26, (.bin .sub (.t 25) (.c (.s (.int .i64 1)))), none⟩,
  ⟨some 8, (.move (.t 26)), none⟩]
theorem s_gnomonlaw25_UpdateOrder_r9_tale (fr : List V) (H : Heap) : evTale (symAll s_gnomonlaw25_UpdateOrder_r9 [25, 26] [8]) [25, 26] fr H = evTale (some (27, [], [(8, (.op (.bin .sub (.t 0) (.c (.s (.int .i64 1)))) [(.t 8), (.c (.s (.int .i64 1)))]))])) [25, 26] fr H := tale_row (items := [.tt 8, .sub 0 [] [], .sub 0 [] []]) (by kernel_rfl) fr H
def s_gnomonlaw25_UpdateOrder_l0_b : ACode :=
  (.seq (.seq (.regionE s_gnomonlaw25_UpdateOrder_r7 [23] [24])
  (.cond (.t 24)
  .skip
  (.exit 0)))
  (.seq (.block 1
  (.region s_gnomonlaw25_UpdateOrder_r8 [] [24, 27, 28, 29, 30, 31, 32, 33, 34, 35, 36, 37]))
  (.regionE s_gnomonlaw25_UpdateOrder_r9 [25, 26] [8])))
def s_gnomonlaw25_UpdateOrder_l0 : ACode := s_gnomonlaw25_UpdateOrder_l0_b
theorem s_gnomonlaw25_UpdateOrder_l0_ev (call : CallF) (it : IterF) (base : Nat) (fr : List V) (H : Heap) : evC call it base s_gnomonlaw25_UpdateOrder_l0 fr H = evC call it base s_gnomonlaw25_UpdateOrder_l0_b fr H := rfl
def s_gnomonlaw25_UpdateOrder_r10t2 : List AOper := [⟨some 9, (.move (.t 40)), none⟩]
def s_gnomonlaw25_UpdateOrder_r10p1 : List AOper := [⟨some 40, (.call (.c (.fn 10 [] [])) [(.t 38), (.t 39)]), none⟩]
def s_gnomonlaw25_UpdateOrder_r10t1 : List AOper := s_gnomonlaw25_UpdateOrder_r10p1 ++ s_gnomonlaw25_UpdateOrder_r10t2
def s_gnomonlaw25_UpdateOrder_r10p0 : List AOper := [⟨some 38, (.move (.t 5)), none⟩, ⟨some 39, (.move (.t 6)), none⟩]
def s_gnomonlaw25_UpdateOrder_r10 : List AOper := s_gnomonlaw25_UpdateOrder_r10p0 ++ s_gnomonlaw25_UpdateOrder_r10t1
theorem s_gnomonlaw25_UpdateOrder_r10p0_tale (fr : List V) (H : Heap) : evTale (symAll s_gnomonlaw25_UpdateOrder_r10p0 [8, 24] [38, 39]) [8, 24] fr H = evTale (some (40, [], [(38, (.t 5)), (39, (.t 6))])) [8, 24] fr H := tale_row (items := [.tt 5, .tt 6]) (by kernel_rfl) fr H
theorem s_gnomonlaw25_UpdateOrder_r10_x (call : CallF) (it : IterF) (base : Nat) (f : List V) (H : Heap) : evC call it base (.region s_gnomonlaw25_UpdateOrder_r10 [] [8, 24, 38, 39, 40]) f H = segC call it base s_gnomonlaw25_UpdateOrder_r10t1 [8, 24, 38, 39, 40] H (evTale (symAll s_gnomonlaw25_UpdateOrder_r10p0 [8, 24] [38, 39]) [8, 24] f H) (origRow call it base s_gnomonlaw25_UpdateOrder_r10 [8, 24, 38, 39, 40] f H) := row_seg call it base s_gnomonlaw25_UpdateOrder_r10p0 s_gnomonlaw25_UpdateOrder_r10t1 (by kernel_rfl) f H
theorem s_gnomonlaw25_UpdateOrder_r10t1_x (call : CallF) (it : IterF) (base : Nat) (f : List V) (H : Heap) : evC call it base (.region s_gnomonlaw25_UpdateOrder_r10t1 [] [8, 24, 38, 39, 40]) f H = thenC call it base (.region s_gnomonlaw25_UpdateOrder_r10t2 [] [8, 24, 38, 39, 40]) (opsC [] s_gnomonlaw25_UpdateOrder_r10p1 [38, 39] (evOps call base [⟨some 40, (.call (.c (.fn 10 [] [])) [(.t 38), (.t 39)]), none⟩] f H)) := (row_op call it base s_gnomonlaw25_UpdateOrder_r10p1 s_gnomonlaw25_UpdateOrder_r10t2 (kc := [38, 39]) (by kernel_rfl) f H).trans (by rw [row_ops]; rfl)
theorem s_gnomonlaw25_UpdateOrder_r10t2_tale (fr : List V) (H : Heap) : evTale (symAll s_gnomonlaw25_UpdateOrder_r10t2 [8, 24, 38, 39, 40] [9]) [8, 24, 38, 39, 40] fr H = evTale (some (10, [], [(9, (.t 40))])) [8, 24, 38, 39, 40] fr H := tale_row (items := [.tt 40]) (by kernel_rfl) fr H
theorem s_gnomonlaw25_UpdateOrder_r10t2_x (call : CallF) (it : IterF) (base : Nat) (f : List V) (H : Heap) : evC call it base (.region s_gnomonlaw25_UpdateOrder_r10t2 [] [8, 24, 38, 39, 40]) f H = segL H (evTale (symAll s_gnomonlaw25_UpdateOrder_r10t2 [8, 24, 38, 39, 40] [9]) [8, 24, 38, 39, 40] f H) (origRow call it base s_gnomonlaw25_UpdateOrder_r10t2 [8, 24, 38, 39, 40] f H) := row_last call it base _ f H
def s_gnomonlaw25_UpdateOrder_r11t7 : List AOper := [⟨some 10, (.move (.t 48)), none⟩]
def s_gnomonlaw25_UpdateOrder_r11p6 : List AOper := [⟨some 48, (.call (.c (.fn 10 [] [])) [(.t 41), (.t 47)]), none⟩]
def s_gnomonlaw25_UpdateOrder_r11t6 : List AOper := s_gnomonlaw25_UpdateOrder_r11p6 ++ s_gnomonlaw25_UpdateOrder_r11t7
def s_gnomonlaw25_UpdateOrder_r11p5 : List AOper := [⟨some 47, (.append 2 16 (.t 42) (.t 46)), none⟩]
def s_gnomonlaw25_UpdateOrder_r11t5 : List AOper := s_gnomonlaw25_UpdateOrder_r11p5 ++ s_gnomonlaw25_UpdateOrder_r11t6
def s_gnomonlaw25_UpdateOrder_r11p4 : List AOper := [⟨some 46, (.buildSl 2 1 [(.s (.bool false)), (.s (.pointer none))] [(0, (.t 45))]), none⟩]
def s_gnomonlaw25_UpdateOrder_r11t4 : List AOper := s_gnomonlaw25_UpdateOrder_r11p4 ++ s_gnomonlaw25_UpdateOrder_r11t5
def s_gnomonlaw25_UpdateOrder_r11p3 : List AOper := [⟨some 45, (.build [(.s (.bool false)), (.s (.pointer none))] [(0, 1), (1, 1)] [(1, (.t 44))]), none⟩]
def s_gnomonlaw25_UpdateOrder_r11t3 : List AOper := s_gnomonlaw25_UpdateOrder_r11p3 ++ s_gnomonlaw25_UpdateOrder_r11t4
def s_gnomonlaw25_UpdateOrder_r11p2 : List AOper := [⟨some 44, (.call (.c (.fn 8 [] [])) [(.t 43)]), none⟩]
def s_gnomonlaw25_UpdateOrder_r11t2 : List AOper := s_gnomonlaw25_UpdateOrder_r11p2 ++ s_gnomonlaw25_UpdateOrder_r11t3
def s_gnomonlaw25_UpdateOrder_r11p1 : List AOper := [⟨some 43, (.buildSl 1 1 [(.s (.int .i64 0))] [(0, (.c (.s (.int .i64 1099511627776))))]), none⟩]
def s_gnomonlaw25_UpdateOrder_r11t1 : List AOper := s_gnomonlaw25_UpdateOrder_r11p1 ++ s_gnomonlaw25_UpdateOrder_r11t2
def s_gnomonlaw25_UpdateOrder_r11p0 : List AOper := [⟨some 41, (.move (.t 5)), none⟩, ⟨some 42, (.move (.t 6)), none⟩]
def s_gnomonlaw25_UpdateOrder_r11 : List AOper := s_gnomonlaw25_UpdateOrder_r11p0 ++ s_gnomonlaw25_UpdateOrder_r11t1
theorem s_gnomonlaw25_UpdateOrder_r11p0_tale (fr : List V) (H : Heap) : evTale (symAll s_gnomonlaw25_UpdateOrder_r11p0 [6] [41, 42]) [6] fr H = evTale (some (43, [], [(41, (.t 5)), (42, (.t 6))])) [6] fr H := tale_row (items := [.tt 5, .tt 6]) (by kernel_rfl) fr H
theorem s_gnomonlaw25_UpdateOrder_r11_x (call : CallF) (it : IterF) (base : Nat) (f : List V) (H : Heap) : evC call it base (.region s_gnomonlaw25_UpdateOrder_r11 [] [6, 41, 42, 43, 44, 45, 46, 47, 48]) f H = segC call it base s_gnomonlaw25_UpdateOrder_r11t1 [6, 41, 42, 43, 44, 45, 46, 47, 48] H (evTale (symAll s_gnomonlaw25_UpdateOrder_r11p0 [6] [41, 42]) [6] f H) (origRow call it base s_gnomonlaw25_UpdateOrder_r11 [6, 41, 42, 43, 44, 45, 46, 47, 48] f H) := row_seg call it base s_gnomonlaw25_UpdateOrder_r11p0 s_gnomonlaw25_UpdateOrder_r11t1 (by kernel_rfl) f H
theorem s_gnomonlaw25_UpdateOrder_r11t1_x (call : CallF) (it : IterF) (base : Nat) (f : List V) (H : Heap) : evC call it base (.region s_gnomonlaw25_UpdateOrder_r11t1 [] [6, 41, 42, 43, 44, 45, 46, 47, 48]) f H = thenC call it base (.region s_gnomonlaw25_UpdateOrder_r11t2 [] [6, 41, 42, 43, 44, 45, 46, 47, 48]) (opsC [] s_gnomonlaw25_UpdateOrder_r11p1 [] (evOps call base [⟨some 43, (.buildSl 1 1 [(.s (.int .i64 0))] [(0, (.c (.s (.int .i64 1099511627776))))]), none⟩] f H)) := (row_op call it base s_gnomonlaw25_UpdateOrder_r11p1 s_gnomonlaw25_UpdateOrder_r11t2 (kc := []) (by kernel_rfl) f H).trans (by rw [row_ops]; rfl)
theorem s_gnomonlaw25_UpdateOrder_r11t2_x (call : CallF) (it : IterF) (base : Nat) (f : List V) (H : Heap) : evC call it base (.region s_gnomonlaw25_UpdateOrder_r11t2 [] [6, 41, 42, 43, 44, 45, 46, 47, 48]) f H = thenC call it base (.region s_gnomonlaw25_UpdateOrder_r11t3 [] [6, 41, 42, 43, 44, 45, 46, 47, 48]) (opsC [] s_gnomonlaw25_UpdateOrder_r11p2 [43] (evOps call base [⟨some 44, (.call (.c (.fn 8 [] [])) [(.t 43)]), none⟩] f H)) := (row_op call it base s_gnomonlaw25_UpdateOrder_r11p2 s_gnomonlaw25_UpdateOrder_r11t3 (kc := [43]) (by kernel_rfl) f H).trans (by rw [row_ops]; rfl)
theorem s_gnomonlaw25_UpdateOrder_r11p3_tale (fr : List V) (H : Heap) : evTale (symAll s_gnomonlaw25_UpdateOrder_r11p3 [44] [45]) [44] fr H = evTale (some (46, [], [(45, (.op (.build [(.s (.bool false)), (.s (.pointer none))] [(0, 1), (1, 1)] [(1, (.t 0))]) [(.t 44)]))])) [44] fr H := tale_row (items := [.sub 0 [] []]) (by kernel_rfl) fr H
theorem s_gnomonlaw25_UpdateOrder_r11t3_x (call : CallF) (it : IterF) (base : Nat) (f : List V) (H : Heap) : evC call it base (.region s_gnomonlaw25_UpdateOrder_r11t3 [] [6, 41, 42, 43, 44, 45, 46, 47, 48]) f H = segC call it base s_gnomonlaw25_UpdateOrder_r11t4 [6, 41, 42, 43, 44, 45, 46, 47, 48] H (evTale (symAll s_gnomonlaw25_UpdateOrder_r11p3 [44] [45]) [44] f H) (origRow call it base s_gnomonlaw25_UpdateOrder_r11t3 [6, 41, 42, 43, 44, 45, 46, 47, 48] f H) := row_seg call it base s_gnomonlaw25_UpdateOrder_r11p3 s_gnomonlaw25_UpdateOrder_r11t4 (by kernel_rfl) f H
theorem s_gnomonlaw25_UpdateOrder_r11t4_x (call : CallF) (it : IterF) (base : Nat) (f : List V) (H : Heap) : evC call it base (.region s_gnomonlaw25_UpdateOrder_r11t4 [] [6, 41, 42, 43, 44, 45, 46, 47, 48]) f H = thenC call it base (.region s_gnomonlaw25_UpdateOrder_r11t5 [] [6, 41, 42, 43, 44, 45, 46, 47, 48]) (opsC [] s_gnomonlaw25_UpdateOrder_r11p4 [45] (evOps call base [⟨some 46, (.buildSl 2 1 [(.s (.bool false)), (.s (.pointer none))] [(0, (.t 45))]), none⟩] f H)) := (row_op call it base s_gnomonlaw25_UpdateOrder_r11p4 s_gnomonlaw25_UpdateOrder_r11t5 (kc := [45]) (by kernel_rfl) f H).trans (by rw [row_ops]; rfl)
theorem s_gnomonlaw25_UpdateOrder_r11t5_x (call : CallF) (it : IterF) (base : Nat) (f : List V) (H : Heap) : evC call it base (.region s_gnomonlaw25_UpdateOrder_r11t5 [] [6, 41, 42, 43, 44, 45, 46, 47, 48]) f H = thenC call it base (.region s_gnomonlaw25_UpdateOrder_r11t6 [] [6, 41, 42, 43, 44, 45, 46, 47, 48]) (opsC [] s_gnomonlaw25_UpdateOrder_r11p5 [42, 46] (evOps call base [⟨some 47, (.append 2 16 (.t 42) (.t 46)), none⟩] f H)) := (row_op call it base s_gnomonlaw25_UpdateOrder_r11p5 s_gnomonlaw25_UpdateOrder_r11t6 (kc := [42, 46]) (by kernel_rfl) f H).trans (by rw [row_ops]; rfl)
theorem s_gnomonlaw25_UpdateOrder_r11t6_x (call : CallF) (it : IterF) (base : Nat) (f : List V) (H : Heap) : evC call it base (.region s_gnomonlaw25_UpdateOrder_r11t6 [] [6, 41, 42, 43, 44, 45, 46, 47, 48]) f H = thenC call it base (.region s_gnomonlaw25_UpdateOrder_r11t7 [] [6, 41, 42, 43, 44, 45, 46, 47, 48]) (opsC [] s_gnomonlaw25_UpdateOrder_r11p6 [41, 47] (evOps call base [⟨some 48, (.call (.c (.fn 10 [] [])) [(.t 41), (.t 47)]), none⟩] f H)) := (row_op call it base s_gnomonlaw25_UpdateOrder_r11p6 s_gnomonlaw25_UpdateOrder_r11t7 (kc := [41, 47]) (by kernel_rfl) f H).trans (by rw [row_ops]; rfl)
theorem s_gnomonlaw25_UpdateOrder_r11t7_tale (fr : List V) (H : Heap) : evTale (symAll s_gnomonlaw25_UpdateOrder_r11t7 [6, 41, 42, 43, 44, 45, 46, 47, 48] [10]) [6, 41, 42, 43, 44, 45, 46, 47, 48] fr H = evTale (some (11, [], [(10, (.t 48))])) [6, 41, 42, 43, 44, 45, 46, 47, 48] fr H := tale_row (items := [.tt 48]) (by kernel_rfl) fr H
theorem s_gnomonlaw25_UpdateOrder_r11t7_x (call : CallF) (it : IterF) (base : Nat) (f : List V) (H : Heap) : evC call it base (.region s_gnomonlaw25_UpdateOrder_r11t7 [] [6, 41, 42, 43, 44, 45, 46, 47, 48]) f H = segL H (evTale (symAll s_gnomonlaw25_UpdateOrder_r11t7 [6, 41, 42, 43, 44, 45, 46, 47, 48] [10]) [6, 41, 42, 43, 44, 45, 46, 47, 48] f H) (origRow call it base s_gnomonlaw25_UpdateOrder_r11t7 [6, 41, 42, 43, 44, 45, 46, 47, 48] f H) := row_last call it base _ f H
def s_gnomonlaw25_UpdateOrder_r12t2 : List AOper := [⟨some 11, (.move (.t 50)), none⟩]
def s_gnomonlaw25_UpdateOrder_r12p1 : List AOper := [⟨some 50, (.call (.c (.fn 12 [] [])) [(.t 49)]), none⟩]
def s_gnomonlaw25_UpdateOrder_r12t1 : List AOper := s_gnomonlaw25_UpdateOrder_r12p1 ++ s_gnomonlaw25_UpdateOrder_r12t2
def s_gnomonlaw25_UpdateOrder_r12p0 : List AOper := [⟨some 49, (.move (.t 9)), none⟩]
def s_gnomonlaw25_UpdateOrder_r12 : List AOper := s_gnomonlaw25_UpdateOrder_r12p0 ++ s_gnomonlaw25_UpdateOrder_r12t1
theorem s_gnomonlaw25_UpdateOrder_r12p0_tale (fr : List V) (H : Heap) : evTale (symAll s_gnomonlaw25_UpdateOrder_r12p0 [] [49]) [] fr H = evTale (some (50, [], [(49, (.t 9))])) [] fr H := tale_row (items := [.tt 9]) (by kernel_rfl) fr H
theorem s_gnomonlaw25_UpdateOrder_r12_x (call : CallF) (it : IterF) (base : Nat) (f : List V) (H : Heap) : evC call it base (.region s_gnomonlaw25_UpdateOrder_r12 [] [49, 50]) f H = segC call it base s_gnomonlaw25_UpdateOrder_r12t1 [49, 50] H (evTale (symAll s_gnomonlaw25_UpdateOrder_r12p0 [] [49]) [] f H) (origRow call it base s_gnomonlaw25_UpdateOrder_r12 [49, 50] f H) := row_seg call it base s_gnomonlaw25_UpdateOrder_r12p0 s_gnomonlaw25_UpdateOrder_r12t1 (by kernel_rfl) f H
theorem s_gnomonlaw25_UpdateOrder_r12t1_x (call : CallF) (it : IterF) (base : Nat) (f : List V) (H : Heap) : evC call it base (.region s_gnomonlaw25_UpdateOrder_r12t1 [] [49, 50]) f H = thenC call it base (.region s_gnomonlaw25_UpdateOrder_r12t2 [] [49, 50]) (opsC [] s_gnomonlaw25_UpdateOrder_r12p1 [49] (evOps call base [⟨some 50, (.call (.c (.fn 12 [] [])) [(.t 49)]), none⟩] f H)) := (row_op call it base s_gnomonlaw25_UpdateOrder_r12p1 s_gnomonlaw25_UpdateOrder_r12t2 (kc := [49]) (by kernel_rfl) f H).trans (by rw [row_ops]; rfl)
theorem s_gnomonlaw25_UpdateOrder_r12t2_tale (fr : List V) (H : Heap) : evTale (symAll s_gnomonlaw25_UpdateOrder_r12t2 [49, 50] [11]) [49, 50] fr H = evTale (some (12, [], [(11, (.t 50))])) [49, 50] fr H := tale_row (items := [.tt 50]) (by kernel_rfl) fr H
theorem s_gnomonlaw25_UpdateOrder_r12t2_x (call : CallF) (it : IterF) (base : Nat) (f : List V) (H : Heap) : evC call it base (.region s_gnomonlaw25_UpdateOrder_r12t2 [] [49, 50]) f H = segL H (evTale (symAll s_gnomonlaw25_UpdateOrder_r12t2 [49, 50] [11]) [49, 50] f H) (origRow call it base s_gnomonlaw25_UpdateOrder_r12t2 [49, 50] f H) := row_last call it base _ f H
def s_gnomonlaw25_UpdateOrder_r13t1 : List AOper := [⟨some 53, (.call (.c (.fn 13 [] [])) [(.t 51), (.t 52)]), none⟩]
def s_gnomonlaw25_UpdateOrder_r13p0 : List AOper := [⟨some 51, (.move (.t 11)), none⟩, ⟨some 52, (.move (.t 5)), none⟩]
def s_gnomonlaw25_UpdateOrder_r13 : List AOper := s_gnomonlaw25_UpdateOrder_r13p0 ++ s_gnomonlaw25_UpdateOrder_r13t1
theorem s_gnomonlaw25_UpdateOrder_r13p0_tale (fr : List V) (H : Heap) : evTale (symAll s_gnomonlaw25_UpdateOrder_r13p0 [] [51, 52]) [] fr H = evTale (some (53, [], [(51, (.t 11)), (52, (.t 5))])) [] fr H := tale_row (items := [.tt 11, .tt 5]) (by kernel_rfl) fr H
theorem s_gnomonlaw25_UpdateOrder_r13_x (call : CallF) (it : IterF) (base : Nat) (f : List V) (H : Heap) : evC call it base (.region s_gnomonlaw25_UpdateOrder_r13 [] [51, 52, 53]) f H = segC call it base s_gnomonlaw25_UpdateOrder_r13t1 [51, 52, 53] H (evTale (symAll s_gnomonlaw25_UpdateOrder_r13p0 [] [51, 52]) [] f H) (origRow call it base s_gnomonlaw25_UpdateOrder_r13 [51, 52, 53] f H) := row_seg call it base s_gnomonlaw25_UpdateOrder_r13p0 s_gnomonlaw25_UpdateOrder_r13t1 (by kernel_rfl) f H
theorem s_gnomonlaw25_UpdateOrder_r13t1_x (call : CallF) (it : IterF) (base : Nat) (f : List V) (H : Heap) : evC call it base (.region s_gnomonlaw25_UpdateOrder_r13t1 [] [51, 52, 53]) f H = opsC [] s_gnomonlaw25_UpdateOrder_r13t1 [51, 52, 53] (evOps call base [⟨some 53, (.call (.c (.fn 13 [] [])) [(.t 51), (.t 52)]), none⟩] f H) := row_ops call it base _ _ _ f H
def s_gnomonlaw25_UpdateOrder_r14t20 : List AOper := [⟨some 80, (.pick (.t 78) (.t 79) (.c (.s (.bool false)))), none⟩, ⟨some 4, (.move (.t 80)), none⟩]
def s_gnomonlaw25_UpdateOrder_r14p19 : List AOper := [⟨some 79, (.call (.c (.fn 7 [] [])) []), some (78, true)⟩]
def s_gnomonlaw25_UpdateOrder_r14t19 : List AOper := s_gnomonlaw25_UpdateOrder_r14p19 ++ s_gnomonlaw25_UpdateOrder_r14t20
def s_gnomonlaw25_UpdateOrder_r14p18 : List AOper := [⟨some 77, (.pick (.t 73) (.t 76) (.c (.s (.bool false)))), none⟩, ⟨some 78, (.move (.t 77)), none⟩]
def s_gnomonlaw25_UpdateOrder_r14t18 : List AOper := s_gnomonlaw25_UpdateOrder_r14p18 ++ s_gnomonlaw25_UpdateOrder_r14t19
def s_gnomonlaw25_UpdateOrder_r14p17 : List AOper := [⟨some 76, (.call (.c (.fn 15 [] [])) [(.t 74), (.t 75)]), some (73, true)⟩]
def s_gnomonlaw25_UpdateOrder_r14t17 : List AOper := s_gnomonlaw25_UpdateOrder_r14p17 ++ s_gnomonlaw25_UpdateOrder_r14t18
def s_gnomonlaw25_UpdateOrder_r14p16 : List AOper := [⟨some 75, (.move (.t 11)), some (73, true)⟩]
def s_gnomonlaw25_UpdateOrder_r14t16 : List AOper := s_gnomonlaw25_UpdateOrder_r14p16 ++ s_gnomonlaw25_UpdateOrder_r14t17
def s_gnomonlaw25_UpdateOrder_r14p15 : List AOper := [⟨some 74, (.move (.t 10)), some (73, true)⟩]
def s_gnomonlaw25_UpdateOrder_r14t15 : List AOper := s_gnomonlaw25_UpdateOrder_r14p15 ++ s_gnomonlaw25_UpdateOrder_r14t16
def s_gnomonlaw25_UpdateOrder_r14p14 : List AOper := [⟨some 72, (.pick (.t 65) (.t 71) (.c (.s (.bool false)))), none⟩, ⟨some 73, (.move (.t 72)), none⟩]
def s_gnomonlaw25_UpdateOrder_r14t14 : List AOper := s_gnomonlaw25_UpdateOrder_r14p14 ++ s_gnomonlaw25_UpdateOrder_r14t15
def s_gnomonlaw25_UpdateOrder_r14p13 : List AOper := [⟨some 71, (.call (.c (.fn 15 [] [])) [(.t 69), (.t 70)]), some (65, true)⟩]
def s_gnomonlaw25_UpdateOrder_r14t13 : List AOper := s_gnomonlaw25_UpdateOrder_r14p13 ++ s_gnomonlaw25_UpdateOrder_r14t14
def s_gnomonlaw25_UpdateOrder_r14p12 : List AOper := [⟨some 70, (.move (.t 5)), some (65, true)⟩]
def s_gnomonlaw25_UpdateOrder_r14t12 : List AOper := s_gnomonlaw25_UpdateOrder_r14p12 ++ s_gnomonlaw25_UpdateOrder_r14t13
def s_gnomonlaw25_UpdateOrder_r14p11 : List AOper := [⟨some 69, (.call (.c (.fn 10 [] [])) [(.t 66), (.t 68)]), some (65, true)⟩]
def s_gnomonlaw25_UpdateOrder_r14t11 : List AOper := s_gnomonlaw25_UpdateOrder_r14p11 ++ s_gnomonlaw25_UpdateOrder_r14t12
def s_gnomonlaw25_UpdateOrder_r14p10 : List AOper := [⟨some 68, (.buildSl 2 1 [(.s (.bool false)), (.s (.pointer none))] [(0, (.t 67))]), some (65, true)⟩]
def s_gnomonlaw25_UpdateOrder_r14t10 : List AOper := s_gnomonlaw25_UpdateOrder_r14p10 ++ s_gnomonlaw25_UpdateOrder_r14t11
def s_gnomonlaw25_UpdateOrder_r14p9 : List AOper := [⟨some 67, (.build [(.s (.bool false)), (.s (.pointer none))] [(0, 1), (1, 1)] []), some (65, true)⟩]
def s_gnomonlaw25_UpdateOrder_r14t9 : List AOper := s_gnomonlaw25_UpdateOrder_r14p9 ++ s_gnomonlaw25_UpdateOrder_r14t10
def s_gnomonlaw25_UpdateOrder_r14p8 : List AOper := [⟨some 66, (.move (.t 5)), some (65, true)⟩]
def s_gnomonlaw25_UpdateOrder_r14t8 : List AOper := s_gnomonlaw25_UpdateOrder_r14p8 ++ s_gnomonlaw25_UpdateOrder_r14t9
def s_gnomonlaw25_UpdateOrder_r14p7 : List AOper := [⟨some 63, (.bin .eql (.t 62) (.c (.s (.int .i64 0)))), some (59, true)⟩, ⟨some 64, (.pick (.t 59) (.t 63) (.c (.s (.bool false)))), none⟩, ⟨some 65, (.move (.t 64)), none⟩]
def s_gnomonlaw25_UpdateOrder_r14t7 : List AOper := s_gnomonlaw25_UpdateOrder_r14p7 ++ s_gnomonlaw25_UpdateOrder_r14t8
def s_gnomonlaw25_UpdateOrder_r14p6 : List AOper := [⟨some 62, (.call (.c (.fn 16 [] [])) [(.t 61)]), some (59, true)⟩]
def s_gnomonlaw25_UpdateOrder_r14t6 : List AOper := s_gnomonlaw25_UpdateOrder_r14p6 ++ s_gnomonlaw25_UpdateOrder_r14t7
def s_gnomonlaw25_UpdateOrder_r14p5 : List AOper := [⟨some 61, (.call (.c (.fn 10 [] [])) [(.t 60), (.c (.s (.slice none 0 0)))]), some (59, true)⟩]
def s_gnomonlaw25_UpdateOrder_r14t5 : List AOper := s_gnomonlaw25_UpdateOrder_r14p5 ++ s_gnomonlaw25_UpdateOrder_r14t6
def s_gnomonlaw25_UpdateOrder_r14p4 : List AOper := [⟨some 60, (.move (.t 5)), some (59, true)⟩]
def s_gnomonlaw25_UpdateOrder_r14t4 : List AOper := s_gnomonlaw25_UpdateOrder_r14p4 ++ s_gnomonlaw25_UpdateOrder_r14t5
def s_gnomonlaw25_UpdateOrder_r14p3 : List AOper := [⟨some 59, (.move (.t 58)), none⟩]
def s_gnomonlaw25_UpdateOrder_r14t3 : List AOper := s_gnomonlaw25_UpdateOrder_r14p3 ++ s_gnomonlaw25_UpdateOrder_r14t4
def s_gnomonlaw25_UpdateOrder_r14p2 : List AOper := [⟨some 58, (.call (.c (.fn 15 [] [])) [(.t 54), (.t 57)]), none⟩]
def s_gnomonlaw25_UpdateOrder_r14t2 : List AOper := s_gnomonlaw25_UpdateOrder_r14p2 ++ s_gnomonlaw25_UpdateOrder_r14t3
def s_gnomonlaw25_UpdateOrder_r14p1 : List AOper := [⟨some 57, (.call (.c (.fn 10 [] [])) [(.t 55), (.t 56)]), none⟩]
def s_gnomonlaw25_UpdateOrder_r14t1 : List AOper := s_gnomonlaw25_UpdateOrder_r14p1 ++ s_gnomonlaw25_UpdateOrder_r14t2
def s_gnomonlaw25_UpdateOrder_r14p0 : List AOper := [⟨some 54, (.move (.t 9)), none⟩, ⟨some 55, (.move (.t 5)), none⟩, ⟨some 56, (.move (.t 7)), none⟩]
def s_gnomonlaw25_UpdateOrder_r14 : List AOper := s_gnomonlaw25_UpdateOrder_r14p0 ++ s_gnomonlaw25_UpdateOrder_r14t1
theorem s_gnomonlaw25_UpdateOrder_r14p0_tale (fr : List V) (H : Heap) : evTale (symAll s_gnomonlaw25_UpdateOrder_r14p0 [7, 9] [54, 55, 56]) [7, 9] fr H = evTale (some (57, [], [(54, (.t 9)), (55, (.t 5)), (56, (.t 7))])) [7, 9] fr H := tale_row (items := [.tt 9, .tt 5, .tt 7]) (by kernel_rfl) fr H
theorem s_gnomonlaw25_UpdateOrder_r14_x (call : CallF) (it : IterF) (base : Nat) (f : List V) (H : Heap) : evC call it base (.region s_gnomonlaw25_UpdateOrder_r14 [] [5, 7, 9, 10, 11, 54, 55, 56, 57, 58, 59, 60, 61, 62, 63, 64, 65, 66, 67, 68, 69, 70, 71, 72, 73, 74, 75, 76, 77, 78, 79, 80]) f H = segC call it base s_gnomonlaw25_UpdateOrder_r14t1 [5, 7, 9, 10, 11, 54, 55, 56, 57, 58, 59, 60, 61, 62, 63, 64, 65, 66, 67, 68, 69, 70, 71, 72, 73, 74, 75, 76, 77, 78, 79, 80] H (evTale (symAll s_gnomonlaw25_UpdateOrder_r14p0 [7, 9] [54, 55, 56]) [7, 9] f H) (origRow call it base s_gnomonlaw25_UpdateOrder_r14 [5, 7, 9, 10, 11, 54, 55, 56, 57, 58, 59, 60, 61, 62, 63, 64, 65, 66, 67, 68, 69, 70, 71, 72, 73, 74, 75, 76, 77, 78, 79, 80] f H) := row_seg call it base s_gnomonlaw25_UpdateOrder_r14p0 s_gnomonlaw25_UpdateOrder_r14t1 (by kernel_rfl) f H
theorem s_gnomonlaw25_UpdateOrder_r14t1_x (call : CallF) (it : IterF) (base : Nat) (f : List V) (H : Heap) : evC call it base (.region s_gnomonlaw25_UpdateOrder_r14t1 [] [5, 7, 9, 10, 11, 54, 55, 56, 57, 58, 59, 60, 61, 62, 63, 64, 65, 66, 67, 68, 69, 70, 71, 72, 73, 74, 75, 76, 77, 78, 79, 80]) f H = thenC call it base (.region s_gnomonlaw25_UpdateOrder_r14t2 [] [5, 7, 9, 10, 11, 54, 55, 56, 57, 58, 59, 60, 61, 62, 63, 64, 65, 66, 67, 68, 69, 70, 71, 72, 73, 74, 75, 76, 77, 78, 79, 80]) (opsC [] s_gnomonlaw25_UpdateOrder_r14p1 [55, 56] (evOps call base [⟨some 57, (.call (.c (.fn 10 [] [])) [(.t 55), (.t 56)]), none⟩] f H)) := (row_op call it base s_gnomonlaw25_UpdateOrder_r14p1 s_gnomonlaw25_UpdateOrder_r14t2 (kc := [55, 56]) (by kernel_rfl) f H).trans (by rw [row_ops]; rfl)
theorem s_gnomonlaw25_UpdateOrder_r14t2_x (call : CallF) (it : IterF) (base : Nat) (f : List V) (H : Heap) : evC call it base (.region s_gnomonlaw25_UpdateOrder_r14t2 [] [5, 7, 9, 10, 11, 54, 55, 56, 57, 58, 59, 60, 61, 62, 63, 64, 65, 66, 67, 68, 69, 70, 71, 72, 73, 74, 75, 76, 77, 78, 79, 80]) f H = thenC call it base (.region s_gnomonlaw25_UpdateOrder_r14t3 [] [5, 7, 9, 10, 11, 54, 55, 56, 57, 58, 59, 60, 61, 62, 63, 64, 65, 66, 67, 68, 69, 70, 71, 72, 73, 74, 75, 76, 77, 78, 79, 80]) (opsC [] s_gnomonlaw25_UpdateOrder_r14p2 [54, 57] (evOps call base [⟨some 58, (.call (.c (.fn 15 [] [])) [(.t 54), (.t 57)]), none⟩] f H)) := (row_op call it base s_gnomonlaw25_UpdateOrder_r14p2 s_gnomonlaw25_UpdateOrder_r14t3 (kc := [54, 57]) (by kernel_rfl) f H).trans (by rw [row_ops]; rfl)
theorem s_gnomonlaw25_UpdateOrder_r14p3_tale (fr : List V) (H : Heap) : evTale (symAll s_gnomonlaw25_UpdateOrder_r14p3 [58] [59]) [58] fr H = evTale (some (60, [], [(59, (.t 58))])) [58] fr H := tale_row (items := [.tt 58]) (by kernel_rfl) fr H
theorem s_gnomonlaw25_UpdateOrder_r14t3_x (call : CallF) (it : IterF) (base : Nat) (f : List V) (H : Heap) : evC call it base (.region s_gnomonlaw25_UpdateOrder_r14t3 [] [5, 7, 9, 10, 11, 54, 55, 56, 57, 58, 59, 60, 61, 62, 63, 64, 65, 66, 67, 68, 69, 70, 71, 72, 73, 74, 75, 76, 77, 78, 79, 80]) f H = segC call it base s_gnomonlaw25_UpdateOrder_r14t4 [5, 7, 9, 10, 11, 54, 55, 56, 57, 58, 59, 60, 61, 62, 63, 64, 65, 66, 67, 68, 69, 70, 71, 72, 73, 74, 75, 76, 77, 78, 79, 80] H (evTale (symAll s_gnomonlaw25_UpdateOrder_r14p3 [58] [59]) [58] f H) (origRow call it base s_gnomonlaw25_UpdateOrder_r14t3 [5, 7, 9, 10, 11, 54, 55, 56, 57, 58, 59, 60, 61, 62, 63, 64, 65, 66, 67, 68, 69, 70, 71, 72, 73, 74, 75, 76, 77, 78, 79, 80] f H) := row_seg call it base s_gnomonlaw25_UpdateOrder_r14p3 s_gnomonlaw25_UpdateOrder_r14t4 (by kernel_rfl) f H
theorem s_gnomonlaw25_UpdateOrder_r14t4_x (call : CallF) (it : IterF) (base : Nat) (f : List V) (H : Heap) : evC call it base (.region s_gnomonlaw25_UpdateOrder_r14t4 [] [5, 7, 9, 10, 11, 54, 55, 56, 57, 58, 59, 60, 61, 62, 63, 64, 65, 66, 67, 68, 69, 70, 71, 72, 73, 74, 75, 76, 77, 78, 79, 80]) f H = thenC call it base (.region s_gnomonlaw25_UpdateOrder_r14t5 [] [5, 7, 9, 10, 11, 54, 55, 56, 57, 58, 59, 60, 61, 62, 63, 64, 65, 66, 67, 68, 69, 70, 71, 72, 73, 74, 75, 76, 77, 78, 79, 80]) (opsC [] s_gnomonlaw25_UpdateOrder_r14p4 [] (evOps call base [⟨some 60, (.move (.t 5)), some (59, true)⟩] f H)) := (row_op call it base s_gnomonlaw25_UpdateOrder_r14p4 s_gnomonlaw25_UpdateOrder_r14t5 (kc := []) (by kernel_rfl) f H).trans (by rw [row_ops]; rfl)
theorem s_gnomonlaw25_UpdateOrder_r14t5_x (call : CallF) (it : IterF) (base : Nat) (f : List V) (H : Heap) : evC call it base (.region s_gnomonlaw25_UpdateOrder_r14t5 [] [5, 7, 9, 10, 11, 54, 55, 56, 57, 58, 59, 60, 61, 62, 63, 64, 65, 66, 67, 68, 69, 70, 71, 72, 73, 74, 75, 76, 77, 78, 79, 80]) f H = thenC call it base (.region s_gnomonlaw25_UpdateOrder_r14t6 [] [5, 7, 9, 10, 11, 54, 55, 56, 57, 58, 59, 60, 61, 62, 63, 64, 65, 66, 67, 68, 69, 70, 71, 72, 73, 74, 75, 76, 77, 78, 79, 80]) (opsC [] s_gnomonlaw25_UpdateOrder_r14p5 [60] (evOps call base [⟨some 61, (.call (.c (.fn 10 [] [])) [(.t 60), (.c (.s (.slice none 0 0)))]), some (59, true)⟩] f H)) := (row_op call it base s_gnomonlaw25_UpdateOrder_r14p5 s_gnomonlaw25_UpdateOrder_r14t6 (kc := [60]) (by kernel_rfl) f H).trans (by rw [row_ops]; rfl)
theorem s_gnomonlaw25_UpdateOrder_r14t6_x (call : CallF) (it : IterF) (base : Nat) (f : List V) (H : Heap) : evC call it base (.region s_gnomonlaw25_UpdateOrder_r14t6 [] [5, 7, 9, 10, 11, 54, 55, 56, 57, 58, 59, 60, 61, 62, 63, 64, 65, 66, 67, 68, 69, 70, 71, 72, 73, 74, 75, 76, 77, 78, 79, 80]) f H = thenC call it base (.region s_gnomonlaw25_UpdateOrder_r14t7 [] [5, 7, 9, 10, 11, 54, 55, 56, 57, 58, 59, 60, 61, 62, 63, 64, 65, 66, 67, 68, 69, 70, 71, 72, 73, 74, 75, 76, 77, 78, 79, 80]) (opsC [] s_gnomonlaw25_UpdateOrder_r14p6 [61] (evOps call base [⟨some 62, (.call (.c (.fn 16 [] [])) [(.t 61)]), some (59, true)⟩] f H)) := (row_op call it base s_gnomonlaw25_UpdateOrder_r14p6 s_gnomonlaw25_UpdateOrder_r14t7 (kc := [61]) (by kernel_rfl) f H).trans (by rw [row_ops]; rfl)
theorem s_gnomonlaw25_UpdateOrder_r14p7_tale (fr : List V) (H : Heap) : evTale (symAll s_gnomonlaw25_UpdateOrder_r14p7 [59, 62, 63, 64] [65]) [59, 62, 63, 64] fr H = evTale (some (66, [], [(65, (.pick (.t 59) (.op (.bin .eql (.t 0) (.c (.s (.int .i64 0)))) [(.t 62), (.c (.s (.int .i64 0)))]) (.c (.s (.bool false)))))])) [59, 62, 63, 64] fr H := tale_row (items := [.sub 0 [1] [59], .sub 0 [] [], .sub 0 [] []]) (by kernel_rfl) fr H
theorem s_gnomonlaw25_UpdateOrder_r14t7_x (call : CallF) (it : IterF) (base : Nat) (f : List V) (H : Heap) : evC call it base (.region s_gnomonlaw25_UpdateOrder_r14t7 [] [5, 7, 9, 10, 11, 54, 55, 56, 57, 58, 59, 60, 61, 62, 63, 64, 65, 66, 67, 68, 69, 70, 71, 72, 73, 74, 75, 76, 77, 78, 79, 80]) f H = segC call it base s_gnomonlaw25_UpdateOrder_r14t8 [5, 7, 9, 10, 11, 54, 55, 56, 57, 58, 59, 60, 61, 62, 63, 64, 65, 66, 67, 68, 69, 70, 71, 72, 73, 74, 75, 76, 77, 78, 79, 80] H (evTale (symAll s_gnomonlaw25_UpdateOrder_r14p7 [59, 62, 63, 64] [65]) [59, 62, 63, 64] f H) (origRow call it base s_gnomonlaw25_UpdateOrder_r14t7 [5, 7, 9, 10, 11, 54, 55, 56, 57, 58, 59, 60, 61, 62, 63, 64, 65, 66, 67, 68, 69, 70, 71, 72, 73, 74, 75, 76, 77, 78, 79, 80] f H) := row_seg call it base s_gnomonlaw25_UpdateOrder_r14p7 s_gnomonlaw25_UpdateOrder_r14t8 (by kernel_rfl) f H
theorem s_gnomonlaw25_UpdateOrder_r14t8_x (call : CallF) (it : IterF) (base : Nat) (f : List V) (H : Heap) : evC call it base (.region s_gnomonlaw25_UpdateOrder_r14t8 [] [5, 7, 9, 10, 11, 54, 55, 56, 57, 58, 59, 60, 61, 62, 63, 64, 65, 66, 67, 68, 69, 70, 71, 72, 73, 74, 75, 76, 77, 78, 79, 80]) f H = thenC call it base (.region s_gnomonlaw25_UpdateOrder_r14t9 [] [5, 7, 9, 10, 11, 54, 55, 56, 57, 58, 59, 60, 61, 62, 63, 64, 65, 66, 67, 68, 69, 70, 71, 72, 73, 74, 75, 76, 77, 78, 79, 80]) (opsC [] s_gnomonlaw25_UpdateOrder_r14p8 [] (evOps call base [⟨some 66, (.move (.t 5)), some (65, true)⟩] f H)) := (row_op call it base s_gnomonlaw25_UpdateOrder_r14p8 s_gnomonlaw25_UpdateOrder_r14t9 (kc := []) (by kernel_rfl) f H).trans (by rw [row_ops]; rfl)
theorem s_gnomonlaw25_UpdateOrder_r14t9_x (call : CallF) (it : IterF) (base : Nat) (f : List V) (H : Heap) : evC call it base (.region s_gnomonlaw25_UpdateOrder_r14t9 [] [5, 7, 9, 10, 11, 54, 55, 56, 57, 58, 59, 60, 61, 62, 63, 64, 65, 66, 67, 68, 69, 70, 71, 72, 73, 74, 75, 76, 77, 78, 79, 80]) f H = thenC call it base (.region s_gnomonlaw25_UpdateOrder_r14t10 [] [5, 7, 9, 10, 11, 54, 55, 56, 57, 58, 59, 60, 61, 62, 63, 64, 65, 66, 67, 68, 69, 70, 71, 72, 73, 74, 75, 76, 77, 78, 79, 80]) (opsC [] s_gnomonlaw25_UpdateOrder_r14p9 [] (evOps call base [⟨some 67, (.build [(.s (.bool false)), (.s (.pointer none))] [(0, 1), (1, 1)] []), some (65, true)⟩] f H)) := (row_op call it base s_gnomonlaw25_UpdateOrder_r14p9 s_gnomonlaw25_UpdateOrder_r14t10 (kc := []) (by kernel_rfl) f H).trans (by rw [row_ops]; rfl)
theorem s_gnomonlaw25_UpdateOrder_r14t10_x (call : CallF) (it : IterF) (base : Nat) (f : List V) (H : Heap) : evC call it base (.region s_gnomonlaw25_UpdateOrder_r14t10 [] [5, 7, 9, 10, 11, 54, 55, 56, 57, 58, 59, 60, 61, 62, 63, 64, 65, 66, 67, 68, 69, 70, 71, 72, 73, 74, 75, 76, 77, 78, 79, 80]) f H = thenC call it base (.region s_gnomonlaw25_UpdateOrder_r14t11 [] [5, 7, 9, 10, 11, 54, 55, 56, 57, 58, 59, 60, 61, 62, 63, 64, 65, 66, 67, 68, 69, 70, 71, 72, 73, 74, 75, 76, 77, 78, 79, 80]) (opsC [] s_gnomonlaw25_UpdateOrder_r14p10 [67] (evOps call base [⟨some 68, (.buildSl 2 1 [(.s (.bool false)), (.s (.pointer none))] [(0, (.t 67))]), some (65, true)⟩] f H)) := (row_op call it base s_gnomonlaw25_UpdateOrder_r14p10 s_gnomonlaw25_UpdateOrder_r14t11 (kc := [67]) (by kernel_rfl) f H).trans (by rw [row_ops]; rfl)
theorem s_gnomonlaw25_UpdateOrder_r14t11_x (call : CallF) (it : IterF) (base : Nat) (f : List V) (H : Heap) : evC call it base (.region s_gnomonlaw25_UpdateOrder_r14t11 [] [5, 7, 9, 10, 11, 54, 55, 56, 57, 58, 59, 60, 61, 62, 63, 64, 65, 66, 67, 68, 69, 70, 71, 72, 73, 74, 75, 76, 77, 78, 79, 80]) f H = thenC call it base (.region s_gnomonlaw25_UpdateOrder_r14t12 [] [5, 7, 9, 10, 11, 54, 55, 56, 57, 58, 59, 60, 61, 62, 63, 64, 65, 66, 67, 68, 69, 70, 71, 72, 73, 74, 75, 76, 77, 78, 79, 80]) (opsC [] s_gnomonlaw25_UpdateOrder_r14p11 [66, 68] (evOps call base [⟨some 69, (.call (.c (.fn 10 [] [])) [(.t 66), (.t 68)]), some (65, true)⟩] f H)) := (row_op call it base s_gnomonlaw25_UpdateOrder_r14p11 s_gnomonlaw25_UpdateOrder_r14t12 (kc := [66, 68]) (by kernel_rfl) f H).trans (by rw [row_ops]; rfl)
theorem s_gnomonlaw25_UpdateOrder_r14t12_x (call : CallF) (it : IterF) (base : Nat) (f : List V) (H : Heap) : evC call it base (.region s_gnomonlaw25_UpdateOrder_r14t12 [] [5, 7, 9, 10, 11, 54, 55, 56, 57, 58, 59, 60, 61, 62, 63, 64, 65, 66, 67, 68, 69, 70, 71, 72, 73, 74, 75, 76, 77, 78, 79, 80]) f H = thenC call it base (.region s_gnomonlaw25_UpdateOrder_r14t13 [] [5, 7, 9, 10, 11, 54, 55, 56, 57, 58, 59, 60, 61, 62, 63, 64, 65, 66, 67, 68, 69, 70, 71, 72, 73, 74, 75, 76, 77, 78, 79, 80]) (opsC [] s_gnomonlaw25_UpdateOrder_r14p12 [5] (evOps call base [⟨some 70, (.move (.t 5)), some (65, true)⟩] f H)) := (row_op call it base s_gnomonlaw25_UpdateOrder_r14p12 s_gnomonlaw25_UpdateOrder_r14t13 (kc := [5]) (by kernel_rfl) f H).trans (by rw [row_ops]; rfl)
theorem s_gnomonlaw25_UpdateOrder_r14t13_x (call : CallF) (it : IterF) (base : Nat) (f : List V) (H : Heap) : evC call it base (.region s_gnomonlaw25_UpdateOrder_r14t13 [] [5, 7, 9, 10, 11, 54, 55, 56, 57, 58, 59, 60, 61, 62, 63, 64, 65, 66, 67, 68, 69, 70, 71, 72, 73, 74, 75, 76, 77, 78, 79, 80]) f H = thenC call it base (.region s_gnomonlaw25_UpdateOrder_r14t14 [] [5, 7, 9, 10, 11, 54, 55, 56, 57, 58, 59, 60, 61, 62, 63, 64, 65, 66, 67, 68, 69, 70, 71, 72, 73, 74, 75, 76, 77, 78, 79, 80]) (opsC [] s_gnomonlaw25_UpdateOrder_r14p13 [69, 70] (evOps call base [⟨some 71, (.call (.c (.fn 15 [] [])) [(.t 69), (.t 70)]), some (65, true)⟩] f H)) := (row_op call it base s_gnomonlaw25_UpdateOrder_r14p13 s_gnomonlaw25_UpdateOrder_r14t14 (kc := [69, 70]) (by kernel_rfl) f H).trans (by rw [row_ops]; rfl)
theorem s_gnomonlaw25_UpdateOrder_r14p14_tale (fr : List V) (H : Heap) : evTale (symAll s_gnomonlaw25_UpdateOrder_r14p14 [65, 71, 72] [73]) [65, 71, 72] fr H = evTale (some (74, [], [(73, (.pick (.t 65) (.t 71) (.c (.s (.bool false)))))])) [65, 71, 72] fr H := tale_row (items := [.sub 0 [] [], .sub 0 [] []]) (by kernel_rfl) fr H
theorem s_gnomonlaw25_UpdateOrder_r14t14_x (call : CallF) (it : IterF) (base : Nat) (f : List V) (H : Heap) : evC call it base (.region s_gnomonlaw25_UpdateOrder_r14t14 [] [5, 7, 9, 10, 11, 54, 55, 56, 57, 58, 59, 60, 61, 62, 63, 64, 65, 66, 67, 68, 69, 70, 71, 72, 73, 74, 75, 76, 77, 78, 79, 80]) f H = segC call it base s_gnomonlaw25_UpdateOrder_r14t15 [5, 7, 9, 10, 11, 54, 55, 56, 57, 58, 59, 60, 61, 62, 63, 64, 65, 66, 67, 68, 69, 70, 71, 72, 73, 74, 75, 76, 77, 78, 79, 80] H (evTale (symAll s_gnomonlaw25_UpdateOrder_r14p14 [65, 71, 72] [73]) [65, 71, 72] f H) (origRow call it base s_gnomonlaw25_UpdateOrder_r14t14 [5, 7, 9, 10, 11, 54, 55, 56, 57, 58, 59, 60, 61, 62, 63, 64, 65, 66, 67, 68, 69, 70, 71, 72, 73, 74, 75, 76, 77, 78, 79, 80] f H) := row_seg call it base s_gnomonlaw25_UpdateOrder_r14p14 s_gnomonlaw25_UpdateOrder_r14t15 (by kernel_rfl) f H
theorem s_gnomonlaw25_UpdateOrder_r14t15_x (call : CallF) (it : IterF) (base : Nat) (f : List V) (H : Heap) : evC call it base (.region s_gnomonlaw25_UpdateOrder_r14t15 [] [5, 7, 9, 10, 11, 54, 55, 56, 57, 58, 59, 60, 61, 62, 63, 64, 65, 66, 67, 68, 69, 70, 71, 72, 73, 74, 75, 76, 77, 78, 79, 80]) f H = thenC call it base (.region s_gnomonlaw25_UpdateOrder_r14t16 [] [5, 7, 9, 10, 11, 54, 55, 56, 57, 58, 59, 60, 61, 62, 63, 64, 65, 66, 67, 68, 69, 70, 71, 72, 73, 74, 75, 76, 77, 78, 79, 80]) (opsC [] s_gnomonlaw25_UpdateOrder_r14p15 [10] (evOps call base [⟨some 74, (.move (.t 10)), some (73, true)⟩] f H)) := (row_op call it base s_gnomonlaw25_UpdateOrder_r14p15 s_gnomonlaw25_UpdateOrder_r14t16 (kc := [10]) (by kernel_rfl) f H).trans (by rw [row_ops]; rfl)
theorem s_gnomonlaw25_UpdateOrder_r14t16_x (call : CallF) (it : IterF) (base : Nat) (f : List V) (H : Heap) : evC call it base (.region s_gnomonlaw25_UpdateOrder_r14t16 [] [5, 7, 9, 10, 11, 54, 55, 56, 57, 58, 59, 60, 61, 62, 63, 64, 65, 66, 67, 68, 69, 70, 71, 72, 73, 74, 75, 76, 77, 78, 79, 80]) f H = thenC call it base (.region s_gnomonlaw25_UpdateOrder_r14t17 [] [5, 7, 9, 10, 11, 54, 55, 56, 57, 58, 59, 60, 61, 62, 63, 64, 65, 66, 67, 68, 69, 70, 71, 72, 73, 74, 75, 76, 77, 78, 79, 80]) (opsC [] s_gnomonlaw25_UpdateOrder_r14p16 [11] (evOps call base [⟨some 75, (.move (.t 11)), some (73, true)⟩] f H)) := (row_op call it base s_gnomonlaw25_UpdateOrder_r14p16 s_gnomonlaw25_UpdateOrder_r14t17 (kc := [11]) (by kernel_rfl) f H).trans (by rw [row_ops]; rfl)
theorem s_gnomonlaw25_UpdateOrder_r14t17_x (call : CallF) (it : IterF) (base : Nat) (f : List V) (H : Heap) : evC call it base (.region s_gnomonlaw25_UpdateOrder_r14t17 [] [5, 7, 9, 10, 11, 54, 55, 56, 57, 58, 59, 60, 61, 62, 63, 64, 65, 66, 67, 68, 69, 70, 71, 72, 73, 74, 75, 76, 77, 78, 79, 80]) f H = thenC call it base (.region s_gnomonlaw25_UpdateOrder_r14t18 [] [5, 7, 9, 10, 11, 54, 55, 56, 57, 58, 59, 60, 61, 62, 63, 64, 65, 66, 67, 68, 69, 70, 71, 72, 73, 74, 75, 76, 77, 78, 79, 80]) (opsC [] s_gnomonlaw25_UpdateOrder_r14p17 [74, 75] (evOps call base [⟨some 76, (.call (.c (.fn 15 [] [])) [(.t 74), (.t 75)]), some (73, true)⟩] f H)) := (row_op call it base s_gnomonlaw25_UpdateOrder_r14p17 s_gnomonlaw25_UpdateOrder_r14t18 (kc := [74, 75]) (by kernel_rfl) f H).trans (by rw [row_ops]; rfl)
theorem s_gnomonlaw25_UpdateOrder_r14p18_tale (fr : List V) (H : Heap) : evTale (symAll s_gnomonlaw25_UpdateOrder_r14p18 [73, 76, 77] [78]) [73, 76, 77] fr H = evTale (some (79, [], [(78, (.pick (.t 73) (.t 76) (.c (.s (.bool false)))))])) [73, 76, 77] fr H := tale_row (items := [.sub 0 [] [], .sub 0 [] []]) (by kernel_rfl) fr H
theorem s_gnomonlaw25_UpdateOrder_r14t18_x (call : CallF) (it : IterF) (base : Nat) (f : List V) (H : Heap) : evC call it base (.region s_gnomonlaw25_UpdateOrder_r14t18 [] [5, 7, 9, 10, 11, 54, 55, 56, 57, 58, 59, 60, 61, 62, 63, 64, 65, 66, 67, 68, 69, 70, 71, 72, 73, 74, 75, 76, 77, 78, 79, 80]) f H = segC call it base s_gnomonlaw25_UpdateOrder_r14t19 [5, 7, 9, 10, 11, 54, 55, 56, 57, 58, 59, 60, 61, 62, 63, 64, 65, 66, 67, 68, 69, 70, 71, 72, 73, 74, 75, 76, 77, 78, 79, 80] H (evTale (symAll s_gnomonlaw25_UpdateOrder_r14p18 [73, 76, 77] [78]) [73, 76, 77] f H) (origRow call it base s_gnomonlaw25_UpdateOrder_r14t18 [5, 7, 9, 10, 11, 54, 55, 56, 57, 58, 59, 60, 61, 62, 63, 64, 65, 66, 67, 68, 69, 70, 71, 72, 73, 74, 75, 76, 77, 78, 79, 80] f H) := row_seg call it base s_gnomonlaw25_UpdateOrder_r14p18 s_gnomonlaw25_UpdateOrder_r14t19 (by kernel_rfl) f H
theorem s_gnomonlaw25_UpdateOrder_r14t19_x (call : CallF) (it : IterF) (base : Nat) (f : List V) (H : Heap) : evC call it base (.region s_gnomonlaw25_UpdateOrder_r14t19 [] [5, 7, 9, 10, 11, 54, 55, 56, 57, 58, 59, 60, 61, 62, 63, 64, 65, 66, 67, 68, 69, 70, 71, 72, 73, 74, 75, 76, 77, 78, 79, 80]) f H = thenC call it base (.region s_gnomonlaw25_UpdateOrder_r14t20 [] [5, 7, 9, 10, 11, 54, 55, 56, 57, 58, 59, 60, 61, 62, 63, 64, 65, 66, 67, 68, 69, 70, 71, 72, 73, 74, 75, 76, 77, 78, 79, 80]) (opsC [] s_gnomonlaw25_UpdateOrder_r14p19 [] (evOps call base [⟨some 79, (.call (.c (.fn 7 [] [])) []), some (78, true)⟩] f H)) := (row_op call it base s_gnomonlaw25_UpdateOrder_r14p19 s_gnomonlaw25_UpdateOrder_r14t20 (kc := []) (by kernel_rfl) f H).trans (by rw [row_ops]; rfl)
theorem s_gnomonlaw25_UpdateOrder_r14t20_tale (fr : List V) (H : Heap) : evTale (symAll s_gnomonlaw25_UpdateOrder_r14t20 [5, 7, 9, 10, 11, 54, 55, 56, 57, 58, 59, 60, 61, 62, 63, 64, 65, 66, 67, 68, 69, 70, 71, 72, 73, 74, 75, 76, 77, 78, 79, 80] [4]) [5, 7, 9, 10, 11, 54, 55, 56, 57, 58, 59, 60, 61, 62, 63, 64, 65, 66, 67, 68, 69, 70, 71, 72, 73, 74, 75, 76, 77, 78, 79, 80] fr H = evTale (some (81, [], [(4, (.pick (.t 78) (.t 79) (.c (.s (.bool false)))))])) [5, 7, 9, 10, 11, 54, 55, 56, 57, 58, 59, 60, 61, 62, 63, 64, 65, 66, 67, 68, 69, 70, 71, 72, 73, 74, 75, 76, 77, 78, 79, 80] fr H := tale_row (items := [.sub 0 [] [], .sub 0 [] []]) (by kernel_rfl) fr H
theorem s_gnomonlaw25_UpdateOrder_r14t20_x (call : CallF) (it : IterF) (base : Nat) (f : List V) (H : Heap) : evC call it base (.region s_gnomonlaw25_UpdateOrder_r14t20 [] [5, 7, 9, 10, 11, 54, 55, 56, 57, 58, 59, 60, 61, 62, 63, 64, 65, 66, 67, 68, 69, 70, 71, 72, 73, 74, 75, 76, 77, 78, 79, 80]) f H = segL H (evTale (symAll s_gnomonlaw25_UpdateOrder_r14t20 [5, 7, 9, 10, 11, 54, 55, 56, 57, 58, 59, 60, 61, 62, 63, 64, 65, 66, 67, 68, 69, 70, 71, 72, 73, 74, 75, 76, 77, 78, 79, 80] [4]) [5, 7, 9, 10, 11, 54, 55, 56, 57, 58, 59, 60, 61, 62, 63, 64, 65, 66, 67, 68, 69, 70, 71, 72, 73, 74, 75, 76, 77, 78, 79, 80] f H) (origRow call it base s_gnomonlaw25_UpdateOrder_r14t20 [5, 7, 9, 10, 11, 54, 55, 56, 57, 58, 59, 60, 61, 62, 63, 64, 65, 66, 67, 68, 69, 70, 71, 72, 73, 74, 75, 76, 77, 78, 79, 80] f H) := row_last call it base _ f H
def s_gnomonlaw25_UpdateOrder : ACFun := { ntmps := 81, results := [(.tmp 4)], body :=
  (.seq (.regionE s_gnomonlaw25_UpdateOrder_r0 s_gnomonlaw25_UpdateOrder_r0_k [])
  (.seq (.seq (.region s_gnomonlaw25_UpdateOrder_r1 [] [12, 13])
  (.cond (.t 14)
  (.seq (.region s_gnomonlaw25_UpdateOrder_r2 [] [0, 1, 14, 15])
  .ret)
  .skip))
  (.seq (.region s_gnomonlaw25_UpdateOrder_r3 [] [0, 14, 16, 17])
  (.seq (.region s_gnomonlaw25_UpdateOrder_r4 [] [1, 18, 19])
  (.seq (.regionE s_gnomonlaw25_UpdateOrder_r5 [] [7])
  (.seq (.seq (.regionE s_gnomonlaw25_UpdateOrder_r6 [20, 21, 22] [8])
  (.block 0
  (.loop [] s_gnomonlaw25_UpdateOrder_l0)))
  (.seq (.region s_gnomonlaw25_UpdateOrder_r10 [] [8, 24, 38, 39, 40])
  (.seq (.region s_gnomonlaw25_UpdateOrder_r11 [] [6, 41, 42, 43, 44, 45, 46, 47, 48])
  (.seq (.region s_gnomonlaw25_UpdateOrder_r12 [] [49, 50])
  (.seq (.region s_gnomonlaw25_UpdateOrder_r13 [] [51, 52, 53])
  (.seq (.region s_gnomonlaw25_UpdateOrder_r14 [] [5, 7, 9, 10, 11, 54, 55, 56, 57, 58, 59, 60, 61, 62, 63, 64, 65, 66, 67, 68, 69, 70, 71, 72, 73, 74, 75, 76, 77, 78, 79, 80])
  .ret))))))))))) }
abbrev k_gnomonlaw25_great : Nat := 6
def s_gnomonlaw25_great_r0_k : List Nat := [4, 5, 6, 7, 8, 9, 10, 11, 12, 13, 14, 15, 16, 17, 18, 19, 20, 21, 22, 23, 24, 25, 26, 27, 28, 29, 30, 31, 32, 33, 34, 35, 36, 37, 38, 39, 40]
theorem s_gnomonlaw25_great_r0_kT : killV s_gnomonlaw25_great_r0_k (startV 41 [] 4) = [] := by kernel_rfl
theorem s_gnomonlaw25_great_r0_kA0 : s_gnomonlaw25_great_r0_k.contains 0 = false := by kernel_rfl
theorem s_gnomonlaw25_great_r0_kA1 : s_gnomonlaw25_great_r0_k.contains 1 = false := by kernel_rfl
theorem s_gnomonlaw25_great_r0_kA2 : s_gnomonlaw25_great_r0_k.contains 2 = false := by kernel_rfl
theorem s_gnomonlaw25_great_r0_kA3 : s_gnomonlaw25_great_r0_k.contains 3 = false := by kernel_rfl
def s_gnomonlaw25_great_r0 : List AOper := [
  ⟨some 8, (.move (.c (.s (.bool false)))), none⟩]
theorem s_gnomonlaw25_great_r0_tale (fr : List V) (H : Heap) : evTale (symAll s_gnomonlaw25_great_r0 s_gnomonlaw25_great_r0_k []) s_gnomonlaw25_great_r0_k fr H = evTale (some (9, [], [])) s_gnomonlaw25_great_r0_k fr H := tale_row (items := [.cc (.s (.bool false))]) (by kernel_rfl) fr H
def s_gnomonlaw25_great_r1 : List AOper := [
  ⟨some 10, (.move (.t 0)), none⟩,
  ⟨some 11, (.lenS .s (.t 10)), none⟩,
  ⟨some 12, (.bin .gtr (.t 11) (.c (.s (.int .i64 300)))), none⟩,
  ⟨some 13, (.move (.t 12)), none⟩,
  ⟨some 14, (.move (.t 1)), some (13, false)⟩,
  ⟨some 15, (.lenS .s (.t 14)), some (13, false)⟩,
  ⟨some 16, (.bin .gtr (.t 15) (.c (.s (.int .i64 300)))), some (13, false)⟩,
  ⟨some 17, (.pick (.t 13) (.c (.s (.bool true))) (.t 16)), none⟩,
  ⟨some 18, (.move (.t 17)), none⟩,
  ⟨some 19, (.move (.t 2)), some (18, false)⟩,
  ⟨some 20, (.lenS .s (.t 19)), some (18, false)⟩,
  ⟨some 21, (.bin .gtr (.t 20) (.c (.s (.int .i64 300)))), some (18, false)⟩,
  ⟨some 22, (.pick (.t 18) (.c (.s (.bool true))) (.t 21)), none⟩,
  ⟨some 23, (.move (.t 22)), none⟩,
  ⟨some 24, (.move (.t 3)), some (23, false)⟩,
  ⟨some 25, (.lenS .s (.t 24)), some (23, false)⟩,
  ⟨some 26, (.bin .gtr (.t 25) (.c (.s (.int .i64 60)))), some (23, false)⟩,
  ⟨some 27, (.pick (.t 23) (.c (.s (.bool true))) (.t 26)), none⟩]
theorem s_gnomonlaw25_great_r1_tale (fr : List V) (H : Heap) : evTale (symAll s_gnomonlaw25_great_r1 [0, 1, 2, 10, 11, 12, 13, 14, 15, 16, 17, 18, 19, 20, 21, 22, 23, 24, 25, 26] [27]) [0, 1, 2, 10, 11, 12, 13, 14, 15, 16, 17, 18, 19, 20, 21, 22, 23, 24, 25, 26] fr H = evTale (some (28, [], [(27, (.pick (.pick (.pick (.op (.bin .gtr (.t 0) (.c (.s (.int .i64 300)))) [(.op (.lenS .s (.t 0)) [(.t 0)]), (.c (.s (.int .i64 300)))]) (.c (.s (.bool true))) (.op (.bin .gtr (.t 0) (.c (.s (.int .i64 300)))) [(.op (.lenS .s (.t 0)) [(.t 1)]), (.c (.s (.int .i64 300)))])) (.c (.s (.bool true))) (.op (.bin .gtr (.t 0) (.c (.s (.int .i64 300)))) [(.op (.lenS .s (.t 0)) [(.t 2)]), (.c (.s (.int .i64 300)))])) (.c (.s (.bool true))) (.op (.bin .gtr (.t 0) (.c (.s (.int .i64 60)))) [(.op (.lenS .s (.t 0)) [(.t 3)]), (.c (.s (.int .i64 60)))])))])) [0, 1, 2, 10, 11, 12, 13, 14, 15, 16, 17, 18, 19, 20, 21, 22, 23, 24, 25, 26] fr H := tale_row (items := [.tt 0, .sub 0 [0, 0, 0, 0] [], .sub 0 [0, 0, 0] [], .sub 0 [0, 0, 0] [], .sub 0 [0, 0, 2, 0, 0] [13], .sub 0 [0, 0, 2, 0] [13], .sub 0 [0, 0, 2] [13], .sub 0 [0, 0] [], .sub 0 [0, 0] [], .sub 0 [0, 2, 0, 0] [18], .sub 0 [0, 2, 0] [18], .sub 0 [0, 2] [18], .sub 0 [0] [], .sub 0 [0] [], .sub 0 [2, 0, 0] [23], .sub 0 [2, 0] [23], .sub 0 [2] [23], .sub 0 [] []]) (by kernel_rfl) fr H
def s_gnomonlaw25_great_r2 : List AOper := [
  ⟨some 8, (.move (.c (.s (.bool true)))), none⟩]
theorem s_gnomonlaw25_great_r2_tale (fr : List V) (H : Heap) : evTale (symAll s_gnomonlaw25_great_r2 [3, 27] [8]) [3, 27] fr H = evTale (some (9, [], [(8, (.c (.s (.bool true))))])) [3, 27] fr H := tale_row (items := [.cc (.s (.bool true))]) (by kernel_rfl) fr H
def s_gnomonlaw25_great_r3 : List AOper := [
  ⟨some 9, (.move (.c (.s (.int .i64 0)))), none⟩]
theorem s_gnomonlaw25_great_r3_tale (fr : List V) (H : Heap) : evTale (symAll s_gnomonlaw25_great_r3 [27] [9]) [27] fr H = evTale (some (10, [], [(9, (.c (.s (.int .i64 0))))])) [27] fr H := tale_row (items := [.cc (.s (.int .i64 0))]) (by kernel_rfl) fr H
def s_gnomonlaw25_great_r4 : List AOper := [
  ⟨some 28, (.move (.t 9)), none⟩,
  ⟨some 29, (.move (.t 3)), none⟩,
  ⟨some 30, (.lenS .s (.t 29)), none⟩,
  ⟨some 31, (.bin .lss (.t 28) (.t 30)), none⟩]
theorem s_gnomonlaw25_great_r4_tale (fr : List V) (H : Heap) : evTale (symAll s_gnomonlaw25_great_r4 [28, 29, 30] [31]) [28, 29, 30] fr H = evTale (some (32, [], [(31, (.op (.bin .lss (.t 0) (.t 1)) [(.t 9), (.op (.lenS .s (.t 0)) [(.t 3)])]))])) [28, 29, 30] fr H := tale_row (items := [.tt 9, .tt 3, .sub 0 [1] [], .sub 0 [] []]) (by kernel_rfl) fr H
def s_gnomonlaw25_great_r5 : List AOper := [
  ⟨some 34, (.move (.t 3)), none⟩,
  ⟨some 35, (.move (.t 9)), none⟩,
  ⟨some 36, (.indexAddr 2 (.t 34) (.t 35)), none⟩,
  ⟨some 37, (.fieldAddr 1 (.t 36)), none⟩,
  ⟨some 38, (.load false 1 (.t 37)), none⟩,
  ⟨some 39, (.lenS .s (.t 38)), none⟩,
  ⟨some 40, (.bin .gtr (.t 39) (.c (.s (.int .i64 300)))), none⟩]
theorem s_gnomonlaw25_great_r5_tale (fr : List V) (H : Heap) : evTale (symAll s_gnomonlaw25_great_r5 [31, 34, 35, 36, 37, 38, 39] [40]) [31, 34, 35, 36, 37, 38, 39] fr H = evTale (some (41, [], [(40, (.op (.bin .gtr (.t 0) (.c (.s (.int .i64 300)))) [(.op (.lenS .s (.t 0)) [(.op (.load false 1 (.t 0)) [(.op (.fieldAddr 1 (.t 0)) [(.op (.indexAddr 2 (.t 0) (.t 1)) [(.t 3), (.t 9)])])])]), (.c (.s (.int .i64 300)))]))])) [31, 34, 35, 36, 37, 38, 39] fr H := tale_row (items := [.tt 3, .tt 9, .sub 0 [0, 0, 0, 0] [], .sub 0 [0, 0, 0] [], .sub 0 [0, 0] [], .sub 0 [0] [], .sub 0 [] []]) (by kernel_rfl) fr H
def s_gnomonlaw25_great_r6 : List AOper := [
  ⟨some 8, (.move (.c (.s (.bool true)))), none⟩]
theorem s_gnomonlaw25_great_r6_tale (fr : List V) (H : Heap) : evTale (symAll s_gnomonlaw25_great_r6 [3, 9, 40] [8]) [3, 9, 40] fr H = evTale (some (9, [], [(8, (.c (.s (.bool true))))])) [3, 9, 40] fr H := tale_row (items := [.cc (.s (.bool true))]) (by kernel_rfl) fr H
def s_gnomonlaw25_great_r7 : List AOper := [
  ⟨some 32, (.move (.t 9)), none⟩,
  ⟨some 33, (.bin .add (.t 32) (.c (.s (.int .i64 1)))), none⟩,
  ⟨some 9, (.move (.t 33)), none⟩]
theorem s_gnomonlaw25_great_r7_tale (fr : List V) (H : Heap) : evTale (symAll s_gnomonlaw25_great_r7 [32, 33, 40] [9]) [32, 33, 40] fr H = evTale (some (34, [], [(9, (.op (.bin .add (.t 0) (.c (.s (.int .i64 1)))) [(.t 9), (.c (.s (.int .i64 1)))]))])) [32, 33, 40] fr H := tale_row (items := [.tt 9, .sub 0 [] [], .sub 0 [] []]) (by kernel_rfl) fr H
def s_gnomonlaw25_great_l0_b : ACode :=
  (.seq (.seq (.regionE s_gnomonlaw25_great_r4 [28, 29, 30] [31])
  (.cond (.t 31)
  .skip
  (.exit 0)))
  (.seq (.block 1
  (.seq (.regionE s_gnomonlaw25_great_r5 [31, 34, 35, 36, 37, 38, 39] [40])
  (.cond (.t 40)
  (.seq (.regionE s_gnomonlaw25_great_r6 [3, 9, 40] [8])
  .ret)
  .skip)))
  (.regionE s_gnomonlaw25_great_r7 [32, 33, 40] [9])))
def s_gnomonlaw25_great_l0 : ACode := s_gnomonlaw25_great_l0_b
theorem s_gnomonlaw25_great_l0_ev (call : CallF) (it : IterF) (base : Nat) (fr : List V) (H : Heap) : evC call it base s_gnomonlaw25_great_l0 fr H = evC call it base s_gnomonlaw25_great_l0_b fr H := rfl
def s_gnomonlaw25_great_r8 : List AOper := [
  ⟨some 8, (.move (.c (.s (.bool false)))), none⟩]
theorem s_gnomonlaw25_great_r8_tale (fr : List V) (H : Heap) : evTale (symAll s_gnomonlaw25_great_r8 [3, 9, 31] [8]) [3, 9, 31] fr H = evTale (some (9, [], [(8, (.c (.s (.bool false))))])) [3, 9, 31] fr H := tale_row (items := [.cc (.s (.bool false))]) (by kernel_rfl) fr H
def s_gnomonlaw25_great : ACFun := { ntmps := 41, results := [(.tmp 8)], body :=
  (.seq (.regionE s_gnomonlaw25_great_r0 s_gnomonlaw25_great_r0_k [])
  (.seq (.seq (.regionE s_gnomonlaw25_great_r1 [0, 1, 2, 10, 11, 12, 13, 14, 15, 16, 17, 18, 19, 20, 21, 22, 23, 24, 25, 26] [27])
  (.cond (.t 27)
  (.seq (.regionE s_gnomonlaw25_great_r2 [3, 27] [8])
  .ret)
  .skip))
  (.seq (.seq (.regionE s_gnomonlaw25_great_r3 [27] [9])
  (.block 0
  (.loop [] s_gnomonlaw25_great_l0)))
  (.seq (.regionE s_gnomonlaw25_great_r8 [3, 9, 31] [8])
  .ret)))) }
abbrev k_gnomonlaw25_exits : Nat := 11
def s_gnomonlaw25_exits_r0_k : List Nat := [1, 2, 3, 4, 5, 6, 7, 8, 9, 10, 11, 12, 13, 14, 15, 16, 17, 18, 19, 20, 21, 22, 23, 24, 25, 26]
theorem s_gnomonlaw25_exits_r0_kT : killV s_gnomonlaw25_exits_r0_k (startV 27 [] 1) = [] := by kernel_rfl
theorem s_gnomonlaw25_exits_r0_kA0 : s_gnomonlaw25_exits_r0_k.contains 0 = false := by kernel_rfl
def s_gnomonlaw25_exits_r0 : List AOper := [
  ⟨some 2, (.move (.c (.s (.slice none 0 0)))), none⟩]
theorem s_gnomonlaw25_exits_r0_tale (fr : List V) (H : Heap) : evTale (symAll s_gnomonlaw25_exits_r0 s_gnomonlaw25_exits_r0_k []) s_gnomonlaw25_exits_r0_k fr H = evTale (some (3, [], [])) s_gnomonlaw25_exits_r0_k fr H := tale_row (items := [.cc (.s (.slice none 0 0))]) (by kernel_rfl) fr H
def s_gnomonlaw25_exits_r1 : List AOper := [
  ⟨some 3, (.move (.c (.s (.slice none 0 0)))), none⟩]
theorem s_gnomonlaw25_exits_r1_tale (fr : List V) (H : Heap) : evTale (symAll s_gnomonlaw25_exits_r1 [] [3]) [] fr H = evTale (some (4, [], [(3, (.c (.s (.slice none 0 0))))])) [] fr H := tale_row (items := [.cc (.s (.slice none 0 0))]) (by kernel_rfl) fr H
def s_gnomonlaw25_exits_r2 : List AOper := [
  ⟨some 4, (.move (.c (.s (.int .i64 0)))), none⟩]
theorem s_gnomonlaw25_exits_r2_tale (fr : List V) (H : Heap) : evTale (symAll s_gnomonlaw25_exits_r2 [] [4]) [] fr H = evTale (some (5, [], [(4, (.c (.s (.int .i64 0))))])) [] fr H := tale_row (items := [.cc (.s (.int .i64 0))]) (by kernel_rfl) fr H
def s_gnomonlaw25_exits_r3 : List AOper := [
  ⟨some 5, (.move (.t 4)), none⟩,
  ⟨some 6, (.move (.t 0)), none⟩,
  ⟨some 7, (.lenS .s (.t 6)), none⟩,
  ⟨some 8, (.bin .lss (.t 5) (.t 7)), none⟩]
theorem s_gnomonlaw25_exits_r3_tale (fr : List V) (H : Heap) : evTale (symAll s_gnomonlaw25_exits_r3 [5, 6, 7] [8]) [5, 6, 7] fr H = evTale (some (9, [], [(8, (.op (.bin .lss (.t 0) (.t 1)) [(.t 4), (.op (.lenS .s (.t 0)) [(.t 0)])]))])) [5, 6, 7] fr H := tale_row (items := [.tt 4, .tt 0, .sub 0 [1] [], .sub 0 [] []]) (by kernel_rfl) fr H
def s_gnomonlaw25_exits_r4t5 : List AOper := [⟨some 3, (.move (.t 25)), none⟩]
def s_gnomonlaw25_exits_r4p4 : List AOper := [⟨some 25, (.append 2 16 (.t 11) (.t 24)), none⟩]
def s_gnomonlaw25_exits_r4t4 : List AOper := s_gnomonlaw25_exits_r4p4 ++ s_gnomonlaw25_exits_r4t5
def s_gnomonlaw25_exits_r4p3 : List AOper := [⟨some 24, (.buildSl 2 1 [(.s (.bool false)), (.s (.pointer none))] [(0, (.t 23))]), none⟩]
def s_gnomonlaw25_exits_r4t3 : List AOper := s_gnomonlaw25_exits_r4p3 ++ s_gnomonlaw25_exits_r4t4
def s_gnomonlaw25_exits_r4p2 : List AOper := [⟨some 23, (.build [(.s (.bool false)), (.s (.pointer none))] [(0, 1), (1, 1)] [(0, (.t 16)), (1, (.t 22))]), none⟩]
def s_gnomonlaw25_exits_r4t2 : List AOper := s_gnomonlaw25_exits_r4p2 ++ s_gnomonlaw25_exits_r4t3
def s_gnomonlaw25_exits_r4p1 : List AOper := [⟨some 22, (.callR (.c (.fn 8 [] [])) [(.t 21)]), none⟩]
def s_gnomonlaw25_exits_r4t1 : List AOper := s_gnomonlaw25_exits_r4p1 ++ s_gnomonlaw25_exits_r4t2
def s_gnomonlaw25_exits_r4p0 : List AOper := [⟨some 11, (.move (.t 3)), none⟩, ⟨some 12, (.move (.t 0)), none⟩, ⟨some 13, (.move (.t 4)), none⟩, ⟨some 14, (.indexAddr 2 (.t 12) (.t 13)), none⟩, ⟨some 15, (.fieldAddr 0 (.t 14)), none⟩, ⟨some 16, (.load false 1 (.t 15)), none⟩, ⟨some 17, (.move (.t 0)), none⟩, ⟨some 18, (.move (.t 4)), none⟩, ⟨some 19, (.indexAddr 2 (.t 17) (.t 18)), none⟩, ⟨some 20, (.fieldAddr 1 (.t 19)), none⟩, ⟨some 21, (.load false 1 (.t 20)), none⟩]
def s_gnomonlaw25_exits_r4 : List AOper := s_gnomonlaw25_exits_r4p0 ++ s_gnomonlaw25_exits_r4t1
theorem s_gnomonlaw25_exits_r4p0_tale (fr : List V) (H : Heap) : evTale (symAll s_gnomonlaw25_exits_r4p0 [3, 8, 12, 13, 14, 15, 17, 18, 19, 20] [11, 16, 21]) [3, 8, 12, 13, 14, 15, 17, 18, 19, 20] fr H = evTale (some (22, [], [(11, (.t 3)), (16, (.op (.load false 1 (.t 0)) [(.op (.fieldAddr 0 (.t 0)) [(.op (.indexAddr 2 (.t 0) (.t 1)) [(.t 0), (.t 4)])])])), (21, (.op (.load false 1 (.t 0)) [(.op (.fieldAddr 1 (.t 0)) [(.op (.indexAddr 2 (.t 0) (.t 1)) [(.t 0), (.t 4)])])]))])) [3, 8, 12, 13, 14, 15, 17, 18, 19, 20] fr H := tale_row (items := [.tt 3, .tt 0, .tt 4, .sub 1 [0, 0] [], .sub 1 [0] [], .sub 1 [] [], .tt 0, .tt 4, .sub 1 [0, 0] [], .sub 2 [0] [], .sub 2 [] []]) (by kernel_rfl) fr H
theorem s_gnomonlaw25_exits_r4_x (call : CallF) (it : IterF) (base : Nat) (f : List V) (H : Heap) : evC call it base (.region s_gnomonlaw25_exits_r4 [] [8, 11, 12, 13, 14, 15, 16, 17, 18, 19, 20, 21, 22, 23, 24, 25]) f H = segC call it base s_gnomonlaw25_exits_r4t1 [8, 11, 12, 13, 14, 15, 16, 17, 18, 19, 20, 21, 22, 23, 24, 25] H (evTale (symAll s_gnomonlaw25_exits_r4p0 [3, 8, 12, 13, 14, 15, 17, 18, 19, 20] [11, 16, 21]) [3, 8, 12, 13, 14, 15, 17, 18, 19, 20] f H) (origRow call it base s_gnomonlaw25_exits_r4 [8, 11, 12, 13, 14, 15, 16, 17, 18, 19, 20, 21, 22, 23, 24, 25] f H) := row_seg call it base s_gnomonlaw25_exits_r4p0 s_gnomonlaw25_exits_r4t1 (by kernel_rfl) f H
theorem s_gnomonlaw25_exits_r4t1_x (call : CallF) (it : IterF) (base : Nat) (f : List V) (H : Heap) : evC call it base (.region s_gnomonlaw25_exits_r4t1 [] [8, 11, 12, 13, 14, 15, 16, 17, 18, 19, 20, 21, 22, 23, 24, 25]) f H = thenC call it base (.region s_gnomonlaw25_exits_r4t2 [] [8, 11, 12, 13, 14, 15, 16, 17, 18, 19, 20, 21, 22, 23, 24, 25]) (opsC [] s_gnomonlaw25_exits_r4p1 [21] (evOps call base [⟨some 22, (.callR (.c (.fn 8 [] [])) [(.t 21)]), none⟩] f H)) := (row_op call it base s_gnomonlaw25_exits_r4p1 s_gnomonlaw25_exits_r4t2 (kc := [21]) (by kernel_rfl) f H).trans (by rw [row_ops]; rfl)
theorem s_gnomonlaw25_exits_r4p2_tale (fr : List V) (H : Heap) : evTale (symAll s_gnomonlaw25_exits_r4p2 [16, 22] [23]) [16, 22] fr H = evTale (some (24, [], [(23, (.op (.build [(.s (.bool false)), (.s (.pointer none))] [(0, 1), (1, 1)] [(0, (.t 0)), (1, (.t 1))]) [(.t 16), (.t 22)]))])) [16, 22] fr H := tale_row (items := [.sub 0 [] []]) (by kernel_rfl) fr H
theorem s_gnomonlaw25_exits_r4t2_x (call : CallF) (it : IterF) (base : Nat) (f : List V) (H : Heap) : evC call it base (.region s_gnomonlaw25_exits_r4t2 [] [8, 11, 12, 13, 14, 15, 16, 17, 18, 19, 20, 21, 22, 23, 24, 25]) f H = segC call it base s_gnomonlaw25_exits_r4t3 [8, 11, 12, 13, 14, 15, 16, 17, 18, 19, 20, 21, 22, 23, 24, 25] H (evTale (symAll s_gnomonlaw25_exits_r4p2 [16, 22] [23]) [16, 22] f H) (origRow call it base s_gnomonlaw25_exits_r4t2 [8, 11, 12, 13, 14, 15, 16, 17, 18, 19, 20, 21, 22, 23, 24, 25] f H) := row_seg call it base s_gnomonlaw25_exits_r4p2 s_gnomonlaw25_exits_r4t3 (by kernel_rfl) f H
theorem s_gnomonlaw25_exits_r4t3_x (call : CallF) (it : IterF) (base : Nat) (f : List V) (H : Heap) : evC call it base (.region s_gnomonlaw25_exits_r4t3 [] [8, 11, 12, 13, 14, 15, 16, 17, 18, 19, 20, 21, 22, 23, 24, 25]) f H = thenC call it base (.region s_gnomonlaw25_exits_r4t4 [] [8, 11, 12, 13, 14, 15, 16, 17, 18, 19, 20, 21, 22, 23, 24, 25]) (opsC [] s_gnomonlaw25_exits_r4p3 [23] (evOps call base [⟨some 24, (.buildSl 2 1 [(.s (.bool false)), (.s (.pointer none))] [(0, (.t 23))]), none⟩] f H)) := (row_op call it base s_gnomonlaw25_exits_r4p3 s_gnomonlaw25_exits_r4t4 (kc := [23]) (by kernel_rfl) f H).trans (by rw [row_ops]; rfl)
theorem s_gnomonlaw25_exits_r4t4_x (call : CallF) (it : IterF) (base : Nat) (f : List V) (H : Heap) : evC call it base (.region s_gnomonlaw25_exits_r4t4 [] [8, 11, 12, 13, 14, 15, 16, 17, 18, 19, 20, 21, 22, 23, 24, 25]) f H = thenC call it base (.region s_gnomonlaw25_exits_r4t5 [] [8, 11, 12, 13, 14, 15, 16, 17, 18, 19, 20, 21, 22, 23, 24, 25]) (opsC [] s_gnomonlaw25_exits_r4p4 [11, 24] (evOps call base [⟨some 25, (.append 2 16 (.t 11) (.t 24)), none⟩] f H)) := (row_op call it base s_gnomonlaw25_exits_r4p4 s_gnomonlaw25_exits_r4t5 (kc := [11, 24]) (by kernel_rfl) f H).trans (by rw [row_ops]; rfl)
theorem s_gnomonlaw25_exits_r4t5_tale (fr : List V) (H : Heap) : evTale (symAll s_gnomonlaw25_exits_r4t5 [8, 11, 12, 13, 14, 15, 16, 17, 18, 19, 20, 21, 22, 23, 24, 25] [3]) [8, 11, 12, 13, 14, 15, 16, 17, 18, 19, 20, 21, 22, 23, 24, 25] fr H = evTale (some (4, [], [(3, (.t 25))])) [8, 11, 12, 13, 14, 15, 16, 17, 18, 19, 20, 21, 22, 23, 24, 25] fr H := tale_row (items := [.tt 25]) (by kernel_rfl) fr H
theorem s_gnomonlaw25_exits_r4t5_x (call : CallF) (it : IterF) (base : Nat) (f : List V) (H : Heap) : evC call it base (.region s_gnomonlaw25_exits_r4t5 [] [8, 11, 12, 13, 14, 15, 16, 17, 18, 19, 20, 21, 22, 23, 24, 25]) f H = segL H (evTale (symAll s_gnomonlaw25_exits_r4t5 [8, 11, 12, 13, 14, 15, 16, 17, 18, 19, 20, 21, 22, 23, 24, 25] [3]) [8, 11, 12, 13, 14, 15, 16, 17, 18, 19, 20, 21, 22, 23, 24, 25] f H) (origRow call it base s_gnomonlaw25_exits_r4t5 [8, 11, 12, 13, 14, 15, 16, 17, 18, 19, 20, 21, 22, 23, 24, 25] f H) := row_last call it base _ f H
def s_gnomonlaw25_exits_r5 : List AOper := [
  ⟨some 9, (.move (.t 4)), none⟩,
  ⟨some 10, (.bin .add (.t 9) (.c (.s (.int .i64 1)))), none⟩,
  ⟨some 4, (.move (.t 10)), none⟩]
theorem s_gnomonlaw25_exits_r5_tale (fr : List V) (H : Heap) : evTale (symAll s_gnomonlaw25_exits_r5 [9, 10] [4]) [9, 10] fr H = evTale (some (11, [], [(4, (.op (.bin .add (.t 0) (.c (.s (.int .i64 1)))) [(.t 4), (.c (.s (.int .i64 1)))]))])) [9, 10] fr H := tale_row (items := [.tt 4, .sub 0 [] [], .sub 0 [] []]) (by kernel_rfl) fr H
def s_gnomonlaw25_exits_l0_b : ACode :=
  (.seq (.seq (.regionE s_gnomonlaw25_exits_r3 [5, 6, 7] [8])
  (.cond (.t 8)
  .skip
  (.exit 0)))
  (.seq (.block 1
  (.region s_gnomonlaw25_exits_r4 [] [8, 11, 12, 13, 14, 15, 16, 17, 18, 19, 20, 21, 22, 23, 24, 25]))
  (.regionE s_gnomonlaw25_exits_r5 [9, 10] [4])))
def s_gnomonlaw25_exits_l0 : ACode := s_gnomonlaw25_exits_l0_b
theorem s_gnomonlaw25_exits_l0_ev (call : CallF) (it : IterF) (base : Nat) (fr : List V) (H : Heap) : evC call it base s_gnomonlaw25_exits_l0 fr H = evC call it base s_gnomonlaw25_exits_l0_b fr H := rfl
def s_gnomonlaw25_exits_r6 : List AOper := [
  ⟨some 26, (.move (.t 3)), none⟩,
  ⟨some 2, (.move (.t 26)), none⟩]
theorem s_gnomonlaw25_exits_r6_tale (fr : List V) (H : Heap) : evTale (symAll s_gnomonlaw25_exits_r6 [0, 3, 4, 8, 26] [2]) [0, 3, 4, 8, 26] fr H = evTale (some (27, [], [(2, (.t 3))])) [0, 3, 4, 8, 26] fr H := tale_row (items := [.tt 3, .tt 3]) (by kernel_rfl) fr H
def s_gnomonlaw25_exits : ACFun := { ntmps := 27, results := [(.tmp 2)], body :=
  (.seq (.regionE s_gnomonlaw25_exits_r0 s_gnomonlaw25_exits_r0_k [])
  (.seq (.regionE s_gnomonlaw25_exits_r1 [] [3])
  (.seq (.seq (.regionE s_gnomonlaw25_exits_r2 [] [4])
  (.block 0
  (.loop [] s_gnomonlaw25_exits_l0)))
  (.seq (.regionE s_gnomonlaw25_exits_r6 [0, 3, 4, 8, 26] [2])
  .ret)))) }
def a_gnomonlaw25_UpdateOrder := And.intro @s_gnomonlaw25_UpdateOrder_r0_tale (And.intro @s_gnomonlaw25_UpdateOrder_r0_kT (And.intro @s_gnomonlaw25_UpdateOrder_r0_kA0 (And.intro @s_gnomonlaw25_UpdateOrder_r0_kA1 (And.intro @s_gnomonlaw25_UpdateOrder_r1p0_tale (And.intro @s_gnomonlaw25_UpdateOrder_r1_x (And.intro @s_gnomonlaw25_UpdateOrder_r1t1_x (And.intro @s_gnomonlaw25_UpdateOrder_r2_x (And.intro @s_gnomonlaw25_UpdateOrder_r2t1_tale (And.intro @s_gnomonlaw25_UpdateOrder_r2t1_x (And.intro @s_gnomonlaw25_UpdateOrder_r3p0_tale (And.intro @s_gnomonlaw25_UpdateOrder_r3_x (And.intro @s_gnomonlaw25_UpdateOrder_r3t1_x (And.intro @s_gnomonlaw25_UpdateOrder_r3t2_tale (And.intro @s_gnomonlaw25_UpdateOrder_r3t2_x (And.intro @s_gnomonlaw25_UpdateOrder_r4p0_tale (And.intro @s_gnomonlaw25_UpdateOrder_r4_x (And.intro @s_gnomonlaw25_UpdateOrder_r4t1_x (And.intro @s_gnomonlaw25_UpdateOrder_r4t2_tale (And.intro @s_gnomonlaw25_UpdateOrder_r4t2_x (And.intro @s_gnomonlaw25_UpdateOrder_r5_tale (And.intro @s_gnomonlaw25_UpdateOrder_r6_tale (And.intro @s_gnomonlaw25_UpdateOrder_r7_tale (And.intro @s_gnomonlaw25_UpdateOrder_r8p0_tale (And.intro @s_gnomonlaw25_UpdateOrder_r8_x (And.intro @s_gnomonlaw25_UpdateOrder_r8t1_x (And.intro @s_gnomonlaw25_UpdateOrder_r8t2_x (And.intro @s_gnomonlaw25_UpdateOrder_r8t3_tale (And.intro @s_gnomonlaw25_UpdateOrder_r8t3_x (And.intro @s_gnomonlaw25_UpdateOrder_r9_tale (And.intro @s_gnomonlaw25_UpdateOrder_l0_ev (And.intro @s_gnomonlaw25_UpdateOrder_r10p0_tale (And.intro @s_gnomonlaw25_UpdateOrder_r10_x (And.intro @s_gnomonlaw25_UpdateOrder_r10t1_x (And.intro @s_gnomonlaw25_UpdateOrder_r10t2_tale (And.intro @s_gnomonlaw25_UpdateOrder_r10t2_x (And.intro @s_gnomonlaw25_UpdateOrder_r11p0_tale (And.intro @s_gnomonlaw25_UpdateOrder_r11_x (And.intro @s_gnomonlaw25_UpdateOrder_r11t1_x (And.intro @s_gnomonlaw25_UpdateOrder_r11t2_x (And.intro @s_gnomonlaw25_UpdateOrder_r11p3_tale (And.intro @s_gnomonlaw25_UpdateOrder_r11t3_x (And.intro @s_gnomonlaw25_UpdateOrder_r11t4_x (And.intro @s_gnomonlaw25_UpdateOrder_r11t5_x (And.intro @s_gnomonlaw25_UpdateOrder_r11t6_x (And.intro @s_gnomonlaw25_UpdateOrder_r11t7_tale (And.intro @s_gnomonlaw25_UpdateOrder_r11t7_x (And.intro @s_gnomonlaw25_UpdateOrder_r12p0_tale (And.intro @s_gnomonlaw25_UpdateOrder_r12_x (And.intro @s_gnomonlaw25_UpdateOrder_r12t1_x (And.intro @s_gnomonlaw25_UpdateOrder_r12t2_tale (And.intro @s_gnomonlaw25_UpdateOrder_r12t2_x (And.intro @s_gnomonlaw25_UpdateOrder_r13p0_tale (And.intro @s_gnomonlaw25_UpdateOrder_r13_x (And.intro @s_gnomonlaw25_UpdateOrder_r13t1_x (And.intro @s_gnomonlaw25_UpdateOrder_r14p0_tale (And.intro @s_gnomonlaw25_UpdateOrder_r14_x (And.intro @s_gnomonlaw25_UpdateOrder_r14t1_x (And.intro @s_gnomonlaw25_UpdateOrder_r14t2_x (And.intro @s_gnomonlaw25_UpdateOrder_r14p3_tale (And.intro @s_gnomonlaw25_UpdateOrder_r14t3_x (And.intro @s_gnomonlaw25_UpdateOrder_r14t4_x (And.intro @s_gnomonlaw25_UpdateOrder_r14t5_x (And.intro @s_gnomonlaw25_UpdateOrder_r14t6_x (And.intro @s_gnomonlaw25_UpdateOrder_r14p7_tale (And.intro @s_gnomonlaw25_UpdateOrder_r14t7_x (And.intro @s_gnomonlaw25_UpdateOrder_r14t8_x (And.intro @s_gnomonlaw25_UpdateOrder_r14t9_x (And.intro @s_gnomonlaw25_UpdateOrder_r14t10_x (And.intro @s_gnomonlaw25_UpdateOrder_r14t11_x (And.intro @s_gnomonlaw25_UpdateOrder_r14t12_x (And.intro @s_gnomonlaw25_UpdateOrder_r14t13_x (And.intro @s_gnomonlaw25_UpdateOrder_r14p14_tale (And.intro @s_gnomonlaw25_UpdateOrder_r14t14_x (And.intro @s_gnomonlaw25_UpdateOrder_r14t15_x (And.intro @s_gnomonlaw25_UpdateOrder_r14t16_x (And.intro @s_gnomonlaw25_UpdateOrder_r14t17_x (And.intro @s_gnomonlaw25_UpdateOrder_r14p18_tale (And.intro @s_gnomonlaw25_UpdateOrder_r14t18_x (And.intro @s_gnomonlaw25_UpdateOrder_r14t19_x (And.intro @s_gnomonlaw25_UpdateOrder_r14t20_tale (@s_gnomonlaw25_UpdateOrder_r14t20_x)))))))))))))))))))))))))))))))))))))))))))))))))))))))))))))))))))))))))))))))))
def a_gnomonlaw25_great := And.intro @s_gnomonlaw25_great_r0_tale (And.intro @s_gnomonlaw25_great_r0_kT (And.intro @s_gnomonlaw25_great_r0_kA0 (And.intro @s_gnomonlaw25_great_r0_kA1 (And.intro @s_gnomonlaw25_great_r0_kA2 (And.intro @s_gnomonlaw25_great_r0_kA3 (And.intro @s_gnomonlaw25_great_r1_tale (And.intro @s_gnomonlaw25_great_r2_tale (And.intro @s_gnomonlaw25_great_r3_tale (And.intro @s_gnomonlaw25_great_r4_tale (And.intro @s_gnomonlaw25_great_r5_tale (And.intro @s_gnomonlaw25_great_r6_tale (And.intro @s_gnomonlaw25_great_r7_tale (And.intro @s_gnomonlaw25_great_l0_ev (@s_gnomonlaw25_great_r8_tale))))))))))))))
def a_gnomonlaw25_exits := And.intro @s_gnomonlaw25_exits_r0_tale (And.intro @s_gnomonlaw25_exits_r0_kT (And.intro @s_gnomonlaw25_exits_r0_kA0 (And.intro @s_gnomonlaw25_exits_r1_tale (And.intro @s_gnomonlaw25_exits_r2_tale (And.intro @s_gnomonlaw25_exits_r3_tale (And.intro @s_gnomonlaw25_exits_r4p0_tale (And.intro @s_gnomonlaw25_exits_r4_x (And.intro @s_gnomonlaw25_exits_r4t1_x (And.intro @s_gnomonlaw25_exits_r4p2_tale (And.intro @s_gnomonlaw25_exits_r4t2_x (And.intro @s_gnomonlaw25_exits_r4t3_x (And.intro @s_gnomonlaw25_exits_r4t4_x (And.intro @s_gnomonlaw25_exits_r4t5_tale (And.intro @s_gnomonlaw25_exits_r4t5_x (And.intro @s_gnomonlaw25_exits_r5_tale (And.intro @s_gnomonlaw25_exits_l0_ev (@s_gnomonlaw25_exits_r6_tale)))))))))))))))))
theorem CB3_4 : compK Try.prog PX0 4 = some (false, s_gnomonlaw25_UpdateOrder.ntmps, s_gnomonlaw25_UpdateOrder.results, s_gnomonlaw25_UpdateOrder.body.bare) := by kernel_rfl
theorem CB3_6 : compK Try.prog PX0 6 = some (false, s_gnomonlaw25_great.ntmps, s_gnomonlaw25_great.results, s_gnomonlaw25_great.body.bare) := by kernel_rfl
theorem CB3_11 : compK Try.prog PX0 11 = some (false, s_gnomonlaw25_exits.ntmps, s_gnomonlaw25_exits.results, s_gnomonlaw25_exits.body.bare) := by kernel_rfl
end Go.Proofs.Ytlclbbieacjmfaa
set_option maxRecDepth 100000
namespace Go.Proofs.Ytlclbbieacjmfaa
open Go.AM
def exV (e : Bool × WS) (j : Nat) : List V := [.s (.bool e.1), .ref (j + 1) 0 0]
def exR (L : List (Bool × WS)) (js : List Nat) : List (List V) := List.zipWith exV L js
theorem exR_get {L : List (Bool × WS)} {js : List Nat} {k : Nat} {e : Bool × WS} {j : Nat} (h1 : L[k]? = some e) (h2 : js[k]? = some j) : (exR L js)[k]? = some (exV e j) := by
  simp [exR, List.getElem?_zipWith, h1, h2]
theorem exR_plain (L : List (Bool × WS)) (js : List Nat) : Plain1 (exR L js) := by
  intro r hr
  obtain ⟨k, hk⟩ := List.getElem?_of_mem hr
  simp only [exR, List.getElem?_zipWith] at hk
  split at hk
  · cases hk; exact ⟨_, _, rfl⟩
  · cases hk
structure ExS (m : Nat) (H : Heap) (v : V) (L : List (Bool × WS)) (js : List Nat) : Prop where
  len : js.length = L.length
  acc : AccW m 2 H v (exR L js)
  sets : ∀ (k : Nat) (e : Bool × WS) (j : Nat), L[k]? = some e → js[k]? = some j → SetP H (j + 1) j e.2
  low : ∀ j ∈ js, m ≤ j
  inc : js.Pairwise (fun a b => a + 2 ≤ b)
theorem ExS.start (m : Nat) (H : Heap) : ExS m H nilS [] [] := ⟨rfl, AccW.start _ _ _, fun k e j h => by simp at h, fun j h => by simp at h, List.Pairwise.nil⟩
theorem ExS.rlen {m : Nat} {H : Heap} {v : V} {L : List (Bool × WS)} {js : List Nat} (h : ExS m H v L js) : (exR L js).length = L.length := by simp [exR, h.len]
theorem ExS.d {m : Nat} {H H' : Heap} {v : V} {L : List (Bool × WS)} {js : List Nat} (h : ExS m H v L js) (k : KeepD H.length [] H H') : ExS m H' v L js :=
  ⟨h.len, h.acc.d k, fun i e j h1 h2 => k.s (h.sets i e j h1 h2), h.low, h.inc⟩
theorem ExS.trim {m L0 : Nat} {H : Heap} {v : V} {L : List (Bool × WS)} {js : List Nat} (h : ExS m H v L js) (hL : L0 ≤ m) {fr : List V} (hv : v ∈ fr) : ExS m (trim L0 fr H) v L js := by
  rcases h.acc.trim_or hL hv with ⟨e, rfl⟩ | e
  · have h1 := h.rlen
    rw [e] at h1
    have hl : L = [] := List.eq_nil_of_length_eq_zero h1.symm
    subst hl
    have hj : js = [] := List.eq_nil_of_length_eq_zero h.len
    subst hj
    exact ExS.start _ _
  · rw [e]; exact h
theorem zip_snoc {α β γ : Type} (f : α → β → γ) : ∀ (a : List α) (b : List β) (x : α) (y : β), a.length = b.length → List.zipWith f (a ++ [x]) (b ++ [y]) = List.zipWith f a b ++ [f x y] := by
  intro a
  induction a with
  | nil => intro b x y h; cases b with | nil => rfl | cons _ _ => simp at h
  | cons p a ih => intro b x y h; cases b with | nil => simp at h | cons q b => simp only [List.cons_append, List.zipWith_cons_cons, List.cons.injEq, true_and]; exact ih b x y (by simpa using h)
theorem ExS.snoc {m : Nat} {H H1 H2 : Heap} {v v' : V} {L : List (Bool × WS)} {js : List Nat} (h : ExS m H v L js) {e : Bool × WS} {j : Nat} (hj : H.length ≤ j) (hm : m ≤ H.length) (k : KeepD H.length [] H H1) (hs : SetP H1 (j + 1) j e.2)
    (ha : AccW m 2 H2 v' (exR L js ++ [exV e j])) (hk : ∀ id, id < H1.length → (∀ g n, v ≠ .sl id g 0 n 2) → H2[id]? = H1[id]?) : ExS m H2 v' (L ++ [e]) (js ++ [j]) := by
  have hd := h.d k
  refine ⟨by simp [h.len], ?_, ?_, ?_, ?_⟩
  · rw [exR, zip_snoc _ _ _ _ _ h.len.symm]; exact ha
  · intro i e' j' h1 h2
    have key : ∀ {a b : Nat} {q : WS}, SetP H1 a b q → SetP H2 a b q := fun {a b q} hq => by
      have hl := SetW.lt hq
      have hap := hd.acc.apart (exR_plain L js) hq
      exact hq.keep (hk a hl.1 fun g n e => (hap a g n e).1 rfl) (hk b hl.2 fun g n e => (hap b g n e).2 rfl)
    rcases Nat.lt_trichotomy i L.length with hi | hi | hi
    · rw [List.getElem?_append_left hi] at h1
      rw [List.getElem?_append_left (by rw [h.len]; exact hi)] at h2
      exact key (hd.sets i e' j' h1 h2)
    · subst hi
      rw [List.getElem?_append_right (Nat.le_refl _), Nat.sub_self] at h1
      rw [List.getElem?_append_right (by rw [h.len]; exact Nat.le_refl _), h.len, Nat.sub_self] at h2
      simp at h1 h2
      subst h1 h2
      exact key hs
    · rw [List.getElem?_eq_none (by simp; omega)] at h1
      cases h1
  · intro x hx
    rcases List.mem_append.1 hx with hx | hx
    · exact h.low x hx
    · simp at hx; omega
  · refine List.pairwise_append.2 ⟨h.inc, List.pairwise_singleton _ _, fun a ha b hb => ?_⟩
    simp at hb
    obtain ⟨i, hi⟩ := List.getElem?_of_mem ha
    have hil := (List.getElem?_eq_some_iff.1 hi).1
    have := (SetW.lt (h.sets i (L[i]'(by rw [← h.len]; exact hil)) a (List.getElem?_eq_getElem _) hi)).1
    omega
section
variable {CT : Nat → Option CFun}
abbrev XIn := Bool × V × List Int
def inR (e : XIn) : List V := [.s (.bool e.1), e.2.1]
def XOk (e : XIn) : Prop := (∀ H, Rd H e.2.1 (e.2.2.map iV)) ∧ Wide1 e.2.1 ∧ e.2.2.length ≤ 300 ∧ ∀ x ∈ e.2.2, x < 2 ^ 63
def outX (e : XIn) : Bool × WS := (e.1, ofP e.2.2 noP)
theorem exits_loop (h : TC CT) {m : Nat} {va : V} {L : List XIn} {H0 : Heap} (hm : m = H0.length) (hn : L.length ≤ 100) (hL : ∀ e ∈ L, XOk e) (hv : ∀ H, KeepD m [] H0 H → RdW 2 H va (L.map inR)) :
    ∀ (d k : Nat) (v : V) (js : List Nat) (H : Heap), k + d = L.length → ExS m H v ((L.take k).map outX) js → KeepD m [] H0 H →
    ∃ v' js' H2, itW (evC (callW CT) itW 0 s_gnomonlaw25_exits_l0) [] m (frOf 27 [(0, va), (3, v), (4, .s (.int .i64 k))]) H = some (.ext 0, frOf 27 [(0, va), (3, v'), (4, .s (.int .i64 L.length)), (8, .s (.bool false))], H2) ∧ ExS m H2 v' (L.map outX) js' ∧ KeepD m [] H0 H2 := by
  intro d
  induction d with
  | zero =>
    intro k v js H hk hE hK
    have hk' : k = L.length := by omega
    subst hk'
    rw [List.take_length] at hE
    have hlen := (hv H hK).len
    rw [List.length_map] at hlen
    rw [itW_step]
    simp only [a_gnomonlaw25_exits,s_gnomonlaw25_exits_l0_b, am0,am1,am2,am3,am4,am5,am6,am7,bl,i64,reduceIte,reduceCtorEq,Nat.reduceEqDiff,Nat.reduceLT,Nat.reduceLeDiff,Nat.reduceBEq,Nat.reduceAdd,fillA,splice,Nat.reduceMul,al0,al1,al2,al3,al4,al5,al6,al7,al8,al9,al10,al11,al12,al13,al14,al15,al16,al17,al18,al19,al20,al21,al22,al23,al24,al25,al26,al27,al28,al29,al30,al31,al32,al33,al34,amY, hlen, Int.lt_irrefl]
    refine ⟨_, js, _, rfl, ?_, hK.trim (Nat.le_refl _) _⟩
    exact hE.trim (Nat.le_refl _) (frOf_mem (s := 3) (by decide) rfl)
  | succ d ih =>
    intro k v js H hk hE hK
    have hkl : k < L.length := by omega
    have hlt : (k : Int) < (L.length : Int) := by omega
    have hwp := wrap_pos (n := k) (by omega)
    obtain ⟨e, hek⟩ : ∃ e, L[k]? = some e := ⟨L[k], List.getElem?_eq_getElem hkl⟩
    have heL := List.mem_of_getElem? hek
    obtain ⟨hu, huw, hul, hux⟩ := hL e heL
    have hrow : (L.map inR)[k]? = some (inR e) := by simp [hek]
    have hlen := (hv H hK).len
    rw [List.length_map] at hlen
    obtain ⟨a, ha1, ha2, ha3⟩ := (hv H hK).at' k _ hrow
    obtain ⟨b0, hb0, hb0'⟩ := ha3 0 _ rfl
    obtain ⟨b1, hb1, hb1'⟩ := ha3 1 _ rfl
    obtain ⟨A, eA, sA, kA, lA⟩ := of_P h.toTB H.length (H := H) (v := e.2.1) (l := e.2.2) (hu _) huw (by omega) hux (Nat.le_refl _)
    have kA := kA.d []
    have hKl := hK.1
    obtain ⟨B, hB⟩ : ∃ B, A ++ [Ob.cells 0 (exV (outX e) H.length)] = B := ⟨_, rfl⟩
    have kB : KeepD A.length [] A B := ⟨by rw [← hB]; simp, fun id h1 _ => by rw [← hB, List.getElem?_append_left h1]⟩
    have hx : elems B 2 (.sl A.length 0 0 1 2) = some ([exV (outX e) H.length].length, [exV (outX e) H.length].flatten) := by
      rw [← hB]; exact (RdW.sl (R := [exV (outX e) H.length]) (by simpa using getC_new A 0 (exV (outX e) H.length)) (by intro r hr; simp at hr; subst hr; rfl)).el
    have hAB := kA.trans kB kA.1
    obtain ⟨v', C, eC, aC, lC, kC⟩ := (hE.d hAB).acc.append (base := 0) (bytes := 16) (S := [exV (outX e) H.length]) (Nat.zero_le _) (by have := hAB.1; omega) (by intro r hr; simp at hr; subst hr; rfl) (by simp) hx (by rfl) (by rw [(hE.d hAB).rlen]; simp; omega)
    have hS := hE.snoc (e := outX e) (j := H.length) (H1 := B) (H2 := C) (Nat.le_refl _) hKl hAB (kB.s sA) aC kC
    rw [show ((L.take k).map outX) ++ [outX e] = (L.take (k + 1)).map outX by rw [List.take_add_one, hek, List.map_append]; rfl] at hS
    have hBl := hAB.1
    have hKC : KeepD m [] H0 C := ⟨by omega, fun id h1 _ => by
      rw [kC id (by omega) (fun g n ev => by
        obtain ⟨_, ⟨_, rfl⟩ | ⟨id', g', rfl, _, hid⟩⟩ := hE.acc
        · cases ev
        · cases ev; omega), hAB.2 id (by omega) (by simp), hK.2 id h1 (by simp)]⟩
    have htr := hS.acc.trim_eq (L := m) (fr := frOf 27 [(0, va), (3, v'), (4, .s (.int .i64 (k + 1 : Nat)))]) (fun e0 => by have := hS.rlen; rw [e0] at this; simp at this; omega) (Nat.le_refl _) (frOf_mem (s := 3) (by decide) rfl)
    obtain ⟨v2, js2, H2, e2, s2, k2⟩ := ih (k + 1) v' _ C (by omega) hS hKC
    refine ⟨v2, js2, H2, ?_, s2, k2⟩
    rw [itW_step]
    rw [show exV (outX e) H.length = [.s (.bool e.1), .ref (H.length + 1) 0 0] from rfl] at hB
    have hb0' : xLoad H false 1 b0 = some (.s (.bool e.1)) := hb0'
    have hb1' : xLoad H false 1 b1 = some e.2.1 := hb1'
    simp only [a_gnomonlaw25_exits,s_gnomonlaw25_exits_l0_b, am0,am1,am2,am3,am4,am5,am6,am7,bl,i64,reduceIte,reduceCtorEq,Nat.reduceEqDiff,Nat.reduceLT,Nat.reduceLeDiff,Nat.reduceBEq,Nat.reduceAdd,fillA,splice,Nat.reduceMul,al0,al1,al2,al3,al4,al5,al6,al7,al8,al9,al10,al11,al12,al13,al14,al15,al16,al17,al18,al19,al20,al21,al22,al23,al24,al25,al26,al27,al28,al29,al30,al31,al32,al33,al34,amY, hlen, hlt, ha1, hb0, hb0', hb1, hb1', eA, hB, eC, hwp, htr, e2]
    done
end
end Go.Proofs.Ytlclbbieacjmfaa
set_option maxRecDepth 100000
namespace Go.Proofs.Ytlclbbieacjmfaa
open Go.AM
def LOk (u : V) : Prop := ∃ L : List XIn, (∀ H, RdW 2 H u (L.map inR)) ∧ ∀ e ∈ L, (∀ H, Rd H e.2.1 (e.2.2.map iV)) ∧ Wide1 e.2.1 ∧ ∀ x ∈ e.2.2, x < 2 ^ 63
theorem exit_of {r : List V} (h : IsV (.st [.bool, .sl (.int .i64)]) r) : ∃ e : XIn, r = inR e ∧ (∀ H, Rd H e.2.1 (e.2.2.map iV)) ∧ Wide1 e.2.1 ∧ ∀ x ∈ e.2.2, x < 2 ^ 63 := by
  obtain ⟨a, b, rfl, ⟨z, rfl⟩, c, d, rfl, h2, h3⟩ := h
  obtain ⟨u, rfl, l, h4, h5, _, h6⟩ := ints_arg h2
  have hd : d = [] := h3
  subst hd
  exact ⟨(z, u, l), rfl, h4, h5, h6⟩
theorem exits_of : ∀ es : List (List V), (∀ x ∈ es, IsV (.st [.bool, .sl (.int .i64)]) x) → ∃ L : List XIn, es = L.map inR ∧ ∀ e ∈ L, (∀ H, Rd H e.2.1 (e.2.2.map iV)) ∧ Wide1 e.2.1 ∧ ∀ x ∈ e.2.2, x < 2 ^ 63 := by
  intro es
  induction es with
  | nil => intro _; exact ⟨[], rfl, fun e h => by cases h⟩
  | cons r es ih =>
    intro h
    obtain ⟨e, rfl, he⟩ := exit_of (h r List.mem_cons_self)
    obtain ⟨L, rfl, hL⟩ := ih fun x hx => h x (List.mem_cons_of_mem _ hx)
    refine ⟨e :: L, rfl, fun x hx => ?_⟩
    rcases List.mem_cons.1 hx with rfl | hx
    · exact he
    · exact hL x hx
theorem exits_arg {v : List V} (h : IsV (.sl (.st [.bool, .sl (.int .i64)])) v) : ∃ u, v = [u] ∧ LOk u := by
  rcases h with rfl | ⟨es, rfl, hl, he⟩
  · exact ⟨nilS, rfl, [], fun H => RdW.nil 2 H, fun e h => by cases h⟩
  · obtain ⟨L, rfl, hL⟩ := exits_of es he
    exact ⟨_, rfl, L, fun H => RdW.psl H (fun r hr => by obtain ⟨e, _, rfl⟩ := List.mem_map.1 hr; rfl), hL⟩
end Go.Proofs.Ytlclbbieacjmfaa
set_option maxRecDepth 100000
namespace Go.Proofs.Ytlclbbieacjmfaa
open Go.AM
section
variable {CT : Nat → Option CFun}
theorem exits_P (h : TC CT) (hX : CT k_gnomonlaw25_exits = some (.code s_gnomonlaw25_exits)) {H : Heap} {va : V} {L : List XIn} (hn : L.length ≤ 100) (hL : ∀ e ∈ L, XOk e) (hv : ∀ H', KeepD H.length [] H H' → RdW 2 H' va (L.map inR)) :
    ∃ v js H', callW CT (.fn k_gnomonlaw25_exits [] []) [va] 0 H = some (v, H') ∧ ExS H.length H' v (L.map outX) js ∧ KeepD H.length [] H H' := by
  obtain ⟨v, js, H2, e2, s2, k2⟩ := exits_loop h (m := H.length) (va := va) (L := L) (H0 := H) rfl hn hL hv L.length 0 nilS [] H (by omega) (ExS.start _ _) (KeepD.refl [] H)
  rw [show (((0 : Nat) : Nat) : Int) = 0 from rfl] at e2
  simp only [nilS] at e2
  have ht : trim H.length [v] H2 = H2 ∨ (L = []) := by
    rcases s2.acc.trim_or (Nat.le_refl _) (fr := [v]) (by simp) with ⟨e, _⟩ | e
    · right
      have := s2.rlen
      rw [e] at this
      simp at this
      exact List.eq_nil_of_length_eq_zero this.symm
    · exact .inl e
  refine ⟨v, js, H2, ?_, s2, k2⟩
  refine callW_fn (c := s_gnomonlaw25_exits) hX (by simp [s_gnomonlaw25_exits]) ?_
  simp only [s_gnomonlaw25_exits, a_gnomonlaw25_exits,s_gnomonlaw25_exits_l0_b, am0,am1,am2,am3,am4,am5,am6,am7,bl,i64,reduceIte,reduceCtorEq,Nat.reduceEqDiff,Nat.reduceLT,Nat.reduceLeDiff,Nat.reduceBEq,Nat.reduceAdd,fillA,splice,Nat.reduceMul,al0,al1,al2,al3,al4,al5,al6,al7,al8,al9,al10,al11,al12,al13,al14,al15,al16,al17,al18,al19,al20,al21,al22,al23,al24,al25,al26,al27,al28,al29,al30,al31,al32,al33,al34,amY, e2]
  done
theorem great_loop {m : Nat} {vl : V} {L : List XIn} {H : Heap} (hm : m = H.length) (hn : L.length ≤ 100) (hL : ∀ e ∈ L, (∀ H, Rd H e.2.1 (e.2.2.map iV))) (hv : RdW 2 H vl (L.map inR)) :
    ∀ (d k : Nat), k + d = L.length →
    (itW (evC (callW CT) itW 0 s_gnomonlaw25_great_l0) [] m (frOf 41 [(3, vl), (9, .s (.int .i64 k))]) H = some (.ext 0, frOf 41 [(3, vl), (9, .s (.int .i64 L.length)), (31, .s (.bool false))], H) ∧ ∀ e ∈ L.drop k, e.2.2.length ≤ 300) ∨
    itW (evC (callW CT) itW 0 s_gnomonlaw25_great_l0) [] m (frOf 41 [(3, vl), (9, .s (.int .i64 k))]) H = some (.ret, frOf 41 [(8, .s (.bool true))], H) := by
  intro d
  have hlen := hv.len
  rw [List.length_map] at hlen
  induction d with
  | zero =>
    intro k hk
    have hk' : k = L.length := by omega
    subst hk'
    left
    refine ⟨?_, fun e he => by rw [List.drop_length] at he; cases he⟩
    rw [itW_step]
    simp only [a_gnomonlaw25_great,s_gnomonlaw25_great_l0_b, am0,am1,am2,am3,am4,am5,am6,am7,bl,i64,reduceIte,reduceCtorEq,Nat.reduceEqDiff,Nat.reduceLT,Nat.reduceLeDiff,Nat.reduceBEq,Nat.reduceAdd,fillA,splice,Nat.reduceMul,al0,al1,al2,al3,al4,al5,al6,al7,al8,al9,al10,al11,al12,al13,al14,al15,al16,al17,al18,al19,al20,al21,al22,al23,al24,al25,al26,al27,al28,al29,al30,al31,al32,al33,al34,amY, hlen, Int.lt_irrefl, trim_same hm.symm]
    done
  | succ d ih =>
    intro k hk
    have hkl : k < L.length := by omega
    have hlt : (k : Int) < (L.length : Int) := by omega
    have hwp := wrap_pos (n := k) (by omega)
    obtain ⟨e, hek⟩ : ∃ e, L[k]? = some e := ⟨L[k], List.getElem?_eq_getElem hkl⟩
    have heL := List.mem_of_getElem? hek
    have hul := iV_len' (hL e heL H)
    have hrow : (L.map inR)[k]? = some (inR e) := by simp [hek]
    obtain ⟨a, ha1, ha2, ha3⟩ := hv.at' k _ hrow
    obtain ⟨b1, hb1, hb1'⟩ := ha3 1 _ rfl
    have hb1' : xLoad H false 1 b1 = some e.2.1 := hb1'
    by_cases hg : e.2.2.length > 300
    · right
      have hgd : decide ((e.2.2.length : Int) > 300) = true := by simp; omega
      rw [itW_step]
      simp only [a_gnomonlaw25_great,s_gnomonlaw25_great_l0_b, am0,am1,am2,am3,am4,am5,am6,am7,bl,i64,reduceIte,reduceCtorEq,Nat.reduceEqDiff,Nat.reduceLT,Nat.reduceLeDiff,Nat.reduceBEq,Nat.reduceAdd,fillA,splice,Nat.reduceMul,al0,al1,al2,al3,al4,al5,al6,al7,al8,al9,al10,al11,al12,al13,al14,al15,al16,al17,al18,al19,al20,al21,al22,al23,al24,al25,al26,al27,al28,al29,al30,al31,al32,al33,al34,amY, hlen, hlt, ha1, hb1, hb1', hul, hgd, trim_same hm.symm]
      done
    · have hgd : decide ((e.2.2.length : Int) > 300) = false := by simp; omega
      have hi := ih (k + 1) (by omega)
      rw [List.drop_eq_getElem_cons hkl]
      have heq : L[k] = e := by rw [List.getElem?_eq_getElem hkl] at hek; exact Option.some.inj hek
      rw [heq]
      have hst : itW (evC (callW CT) itW 0 s_gnomonlaw25_great_l0) [] m (frOf 41 [(3, vl), (9, .s (.int .i64 k))]) H = itW (evC (callW CT) itW 0 s_gnomonlaw25_great_l0) [] m (frOf 41 [(3, vl), (9, .s (.int .i64 (k + 1 : Nat)))]) H := by
        rw [itW_step]
        simp only [a_gnomonlaw25_great,s_gnomonlaw25_great_l0_b, am0,am1,am2,am3,am4,am5,am6,am7,bl,i64,reduceIte,reduceCtorEq,Nat.reduceEqDiff,Nat.reduceLT,Nat.reduceLeDiff,Nat.reduceBEq,Nat.reduceAdd,fillA,splice,Nat.reduceMul,al0,al1,al2,al3,al4,al5,al6,al7,al8,al9,al10,al11,al12,al13,al14,al15,al16,al17,al18,al19,al20,al21,al22,al23,al24,al25,al26,al27,al28,al29,al30,al31,al32,al33,al34,amY, hlen, hlt, ha1, hb1, hb1', hul, hgd, hwp, trim_same hm.symm]
        done
      rw [hst]
      rcases hi with ⟨h1, h2⟩ | h1
      · exact .inl ⟨h1, fun x hx => by
          rcases List.mem_cons.1 hx with rfl | hx
          · omega
          · exact h2 x hx⟩
      · exact .inr h1
theorem great_P (hG : CT k_gnomonlaw25_great = some (.code s_gnomonlaw25_great)) {H : Heap} {va vb vc vl : V} {na nb nc : Nat} {L : List XIn} (ha : xLen H .s va = some (.s (.int .i64 na))) (hb : xLen H .s vb = some (.s (.int .i64 nb))) (hc : xLen H .s vc = some (.s (.int .i64 nc))) (hL : ∀ e ∈ L, (∀ H, Rd H e.2.1 (e.2.2.map iV))) (hv : RdW 2 H vl (L.map inR)) :
    ∃ b, callW CT (.fn k_gnomonlaw25_great [] []) [va, vb, vc, vl] 0 H = some (.s (.bool b), H) ∧ (b = false → na ≤ 300 ∧ nb ≤ 300 ∧ nc ≤ 300 ∧ L.length ≤ 60 ∧ ∀ e ∈ L, e.2.2.length ≤ 300) := by
  have hlen := hv.len
  rw [List.length_map] at hlen
  by_cases g : na > 300 ∨ nb > 300 ∨ nc > 300 ∨ L.length > 60
  · refine ⟨true, ?_, fun e => by cases e⟩
    refine callW_fn (c := s_gnomonlaw25_great) hG (by simp [s_gnomonlaw25_great]) ?_
    by_cases h1 : na > 300
    · have g1 : decide ((na : Int) > 300) = true := by simp; omega
      simp only [s_gnomonlaw25_great, a_gnomonlaw25_great,s_gnomonlaw25_great_l0_b, am0,am1,am2,am3,am4,am5,am6,am7,bl,i64,reduceIte,reduceCtorEq,Nat.reduceEqDiff,Nat.reduceLT,Nat.reduceLeDiff,Nat.reduceBEq,Nat.reduceAdd,fillA,splice,Nat.reduceMul,al0,al1,al2,al3,al4,al5,al6,al7,al8,al9,al10,al11,al12,al13,al14,al15,al16,al17,al18,al19,al20,al21,al22,al23,al24,al25,al26,al27,al28,al29,al30,al31,al32,al33,al34,amY, ha, hb, hc, hlen, g1]
      done
    have g1 : decide ((na : Int) > 300) = false := by simp; omega
    by_cases h2 : nb > 300
    · have g2 : decide ((nb : Int) > 300) = true := by simp; omega
      simp only [s_gnomonlaw25_great, a_gnomonlaw25_great,s_gnomonlaw25_great_l0_b, am0,am1,am2,am3,am4,am5,am6,am7,bl,i64,reduceIte,reduceCtorEq,Nat.reduceEqDiff,Nat.reduceLT,Nat.reduceLeDiff,Nat.reduceBEq,Nat.reduceAdd,fillA,splice,Nat.reduceMul,al0,al1,al2,al3,al4,al5,al6,al7,al8,al9,al10,al11,al12,al13,al14,al15,al16,al17,al18,al19,al20,al21,al22,al23,al24,al25,al26,al27,al28,al29,al30,al31,al32,al33,al34,amY, ha, hb, hc, hlen, g1, g2]
      done
    have g2 : decide ((nb : Int) > 300) = false := by simp; omega
    by_cases h3 : nc > 300
    · have g3 : decide ((nc : Int) > 300) = true := by simp; omega
      simp only [s_gnomonlaw25_great, a_gnomonlaw25_great,s_gnomonlaw25_great_l0_b, am0,am1,am2,am3,am4,am5,am6,am7,bl,i64,reduceIte,reduceCtorEq,Nat.reduceEqDiff,Nat.reduceLT,Nat.reduceLeDiff,Nat.reduceBEq,Nat.reduceAdd,fillA,splice,Nat.reduceMul,al0,al1,al2,al3,al4,al5,al6,al7,al8,al9,al10,al11,al12,al13,al14,al15,al16,al17,al18,al19,al20,al21,al22,al23,al24,al25,al26,al27,al28,al29,al30,al31,al32,al33,al34,amY, ha, hb, hc, hlen, g1, g2, g3]
      done
    have g3 : decide ((nc : Int) > 300) = false := by simp; omega
    have g4 : decide ((L.length : Int) > 60) = true := by simp; omega
    simp only [s_gnomonlaw25_great, a_gnomonlaw25_great,s_gnomonlaw25_great_l0_b, am0,am1,am2,am3,am4,am5,am6,am7,bl,i64,reduceIte,reduceCtorEq,Nat.reduceEqDiff,Nat.reduceLT,Nat.reduceLeDiff,Nat.reduceBEq,Nat.reduceAdd,fillA,splice,Nat.reduceMul,al0,al1,al2,al3,al4,al5,al6,al7,al8,al9,al10,al11,al12,al13,al14,al15,al16,al17,al18,al19,al20,al21,al22,al23,al24,al25,al26,al27,al28,al29,al30,al31,al32,al33,al34,amY, ha, hb, hc, hlen, g1, g2, g3, g4]
    done
  · have g1 : decide ((na : Int) > 300) = false := by simp; omega
    have g2 : decide ((nb : Int) > 300) = false := by simp; omega
    have g3 : decide ((nc : Int) > 300) = false := by simp; omega
    have g4 : decide ((L.length : Int) > 60) = false := by simp; omega
    rcases great_loop (CT := CT) rfl (by omega) hL hv L.length 0 (by omega) with ⟨e1, e2⟩ | e1
    · rw [show (((0 : Nat) : Nat) : Int) = 0 from rfl] at e1
      refine ⟨false, ?_, fun _ => ⟨by omega, by omega, by omega, by omega, by simpa using e2⟩⟩
      refine callW_fn (c := s_gnomonlaw25_great) hG (by simp [s_gnomonlaw25_great]) ?_
      simp only [s_gnomonlaw25_great, a_gnomonlaw25_great,s_gnomonlaw25_great_l0_b, am0,am1,am2,am3,am4,am5,am6,am7,bl,i64,reduceIte,reduceCtorEq,Nat.reduceEqDiff,Nat.reduceLT,Nat.reduceLeDiff,Nat.reduceBEq,Nat.reduceAdd,fillA,splice,Nat.reduceMul,al0,al1,al2,al3,al4,al5,al6,al7,al8,al9,al10,al11,al12,al13,al14,al15,al16,al17,al18,al19,al20,al21,al22,al23,al24,al25,al26,al27,al28,al29,al30,al31,al32,al33,al34,amY, ha, hb, hc, hlen, g1, g2, g3, g4, e1]
      done
    · rw [show (((0 : Nat) : Nat) : Int) = 0 from rfl] at e1
      refine ⟨true, ?_, fun e => by cases e⟩
      refine callW_fn (c := s_gnomonlaw25_great) hG (by simp [s_gnomonlaw25_great]) ?_
      simp only [s_gnomonlaw25_great, a_gnomonlaw25_great,s_gnomonlaw25_great_l0_b, am0,am1,am2,am3,am4,am5,am6,am7,bl,i64,reduceIte,reduceCtorEq,Nat.reduceEqDiff,Nat.reduceLT,Nat.reduceLeDiff,Nat.reduceBEq,Nat.reduceAdd,fillA,splice,Nat.reduceMul,al0,al1,al2,al3,al4,al5,al6,al7,al8,al9,al10,al11,al12,al13,al14,al15,al16,al17,al18,al19,al20,al21,al22,al23,al24,al25,al26,al27,al28,al29,al30,al31,al32,al33,al34,amY, ha, hb, hc, hlen, g1, g2, g3, g4, e1]
      done
end
end Go.Proofs.Ytlclbbieacjmfaa
set_option maxRecDepth 100000
namespace Go.Proofs.Ytlclbbieacjmfaa
open Go.AM
theorem KeepD.s2 {m : Nat} {A B : Heap} (k : KeepD m [] A B) {i j : Nat} {p : WS} (h : SetP A i j p) (hi : i < m) (hj : j < m) : SetP B i j p := k.setP h ⟨hi, hj⟩ ⟨by simp, by simp⟩
def dupL {α : Type} (Z : List α) : List α := Z.reverse.flatMap fun r => [r, r]
theorem dupL_cons {α : Type} (r : α) (Z : List α) : dupL (r :: Z) = dupL Z ++ [r, r] := by simp [dupL]
theorem mem_dupL {α : Type} {Z : List α} {x : α} : x ∈ dupL Z ↔ x ∈ Z := by simp [dupL]
theorem dupL_map {α β : Type} (f : α → β) (Z : List α) : (dupL Z).map f = dupL (Z.map f) := by simp [dupL, List.map_flatMap, List.flatMap_map, ← List.map_reverse]
theorem dupL_len {α : Type} (Z : List α) : (dupL Z).length = 2 * Z.length := by
  induction Z with
  | nil => rfl
  | cons r Z ih => rw [dupL_cons, List.length_append, ih]; simp; omega
def ZOk (H : Heap) (ia : Nat) (z : List V × WS) : Prop := ∃ (b : Bool) (u : V) (i j : Nat), z.1 = [.s (.bool b), u] ∧ u.one = true ∧ (if b then u else V.ref ia 0 0) = .ref i 0 0 ∧ SetP H i j z.2 ∧ cnt z.2 ≤ 2 ^ 20
theorem ZOk.d {H H' : Heap} {ia : Nat} {z : List V × WS} (h : ZOk H ia z) (k : KeepD H.length [] H H') : ZOk H' ia z := by
  obtain ⟨b, u, i, j, h1, h2, h3, h4, h5⟩ := h
  exact ⟨b, u, i, j, h1, h2, h3, k.s h4, h5⟩
def zOf (pa : WS) (e : Bool × WS) (j : Nat) : List V × WS := (exV e j, if e.1 then e.2 else pa)
def zL (pa : WS) (L : List (Bool × WS)) (js : List Nat) : List (List V × WS) := List.zipWith (zOf pa) L js
theorem zL_map (pa : WS) : ∀ (L : List (Bool × WS)) (js : List Nat), (zL pa L js).map (·.1) = exR L js := by
  intro L
  induction L with
  | nil => intro js; simp [zL, exR]
  | cons e L ih => intro js; cases js with | nil => simp [zL, exR] | cons j js => simp only [zL, exR, List.zipWith_cons_cons, List.map_cons] at ih ⊢; rw [ih]; rfl
theorem zL_mem {pa : WS} {L : List (Bool × WS)} {js : List Nat} {z : List V × WS} (h : z ∈ zL pa L js) : ∃ (k : Nat) (e : Bool × WS) (j : Nat), L[k]? = some e ∧ js[k]? = some j ∧ z = zOf pa e j := by
  obtain ⟨k, hk⟩ := List.getElem?_of_mem h
  simp only [zL, List.getElem?_zipWith] at hk
  split at hk
  · rename_i e j h1 h2
    exact ⟨k, e, j, h1, h2, (Option.some.inj hk).symm⟩
  · cases hk
theorem zL_snd (pa : WS) : ∀ (L : List (Bool × WS)) (js : List Nat), js.length = L.length → (zL pa L js).map (·.2) = L.map fun e => if e.1 then e.2 else pa := by
  intro L
  induction L with
  | nil => intro js _; simp [zL]
  | cons e L ih => intro js h; cases js with | nil => simp at h | cons j js => simp only [zL, List.zipWith_cons_cons, List.map_cons] at ih ⊢; rw [ih js (by simpa using h)]; rfl
theorem zL_ok {m ia ja : Nat} {H : Heap} {v : V} {L : List (Bool × WS)} {js : List Nat} {pa : WS} (h : ExS m H v L js) (sa : SetP H ia ja pa) (ca : cnt pa ≤ 2 ^ 20) (cl : ∀ e ∈ L, cnt e.2 ≤ 2 ^ 20) : ∀ z ∈ zL pa L js, ZOk H ia z := by
  intro z hz
  obtain ⟨k, ⟨b, q⟩, j, h1, h2, rfl⟩ := zL_mem hz
  have hs := h.sets k _ j h1 h2
  cases b with
  | true => exact ⟨true, .ref (j + 1) 0 0, j + 1, j, rfl, rfl, rfl, hs, cl _ (List.mem_of_getElem? h1)⟩
  | false => exact ⟨false, .ref (j + 1) 0 0, ia, ja, rfl, rfl, rfl, sa, ca⟩
section
variable {CT : Nat → Option CFun}
theorem call_Z (h : TC CT) (hC : CT k_update_Call = some (.code s_update_Call)) {ia : Nat} {H : Heap} {v : V} (Z : List (List V × WS)) (hn : Z.length ≤ 2 ^ 20) (hv : ∀ H', KeepD H.length [] H H' → RdW 2 H' v (Z.map (·.1))) (hz : ∀ z ∈ Z, ZOk H ia z) :
    ∃ i j H', callW CT (.fn k_update_Call [] []) [.ref ia 0 0, v] 0 H = some (.ref i 0 0, H') ∧ SetP H' i j (uniS (Z.map (·.2)) noP) ∧ KeepD H.length [] H H' ∧ H.length ≤ i ∧ H.length ≤ j ∧ cnt (uniS (Z.map (·.2)) noP) ≤ Z.length * 2 ^ 20 := by
  have hq : ∀ q ∈ Z.map (·.2), WdP q ∧ cnt q ≤ 2 ^ 20 := fun q hq => by
    obtain ⟨z, hz', rfl⟩ := List.mem_map.1 hq
    obtain ⟨b, u, i, j, h1, h2, h3, h4, h5⟩ := hz z hz'
    exact ⟨h4.wd, h5⟩
  obtain ⟨i, j, H', e1, s1, k1, l1, l2⟩ := call_P h hC (ia := ia) (H := H) (v := v) (R := Z.map (·.1)) (qs := Z.map (·.2)) (by simp) (by simpa using hn) hq hv (fun k r q h1 h2 => by
    rw [List.getElem?_map] at h1 h2
    cases hk : Z[k]? with
    | none => rw [hk] at h1; cases h1
    | some z =>
      rw [hk] at h1 h2
      cases h1
      cases h2
      obtain ⟨b, u, i, j, h1, h2, h3, h4, h5⟩ := hz z (List.mem_of_getElem? hk)
      exact ⟨b, u, i, j, h1, h2, h3, h4⟩)
  have hc := cnt_uniS (Z.map (·.2)) noP hq noP_wd
  rw [noP_cnt, List.length_map, Nat.zero_add] at hc
  exact ⟨i, j, H', e1, s1, k1, l1, l2, hc⟩
theorem copy_union (h : TC CT) {H : Heap} {i j : Nat} {p : WS} (sp : SetP H i j p) {a b : Nat} {r : WS} (sr : SetP H a b r) (hl : cnt p + cnt r ≤ 2 ^ 43) :
    ∃ i' j' B1 B2 w, callW CT (.fn k_bits_Set_Copy [] []) [.ref i 0 0] 0 H = some (.ref i' 0 0, B1) ∧ callW CT (.fn k_bits_Set_Union [] []) [.ref i' 0 0, .ref a 0 0] 0 B1 = some (w, B2) ∧ SetP B2 i' j' (uniA p r) ∧ KeepD H.length [] H B2 ∧ H.length ≤ i' ∧ H.length ≤ j' := by
  have dr := SetW.lt sr
  obtain ⟨B1, e1, s1, k1, l1⟩ := copy_ex h 0 sp
  obtain ⟨B2, e2, n2, k2⟩ := union_P h.toTB 0 s1 (Nat.zero_le _) (Nat.zero_le _) (k1.s sr) (.inr ⟨by omega, by omega, by omega, by omega⟩) hl h.union
  have := k2.1
  exact ⟨_, _, B1, B2, _, e1, e2, n2, ⟨by omega, fun id h1 _ => by rw [k2.2 id (by omega) (by omega) (by omega), k1.2 id h1 (by simp)]⟩, by omega, by omega⟩
theorem back_loop {m : Nat} {ra vx : V} {L : List (Bool × WS)} {js : List Nat} {H0 : Heap} (hm : m = H0.length) (hn : (exR L js).length ≤ 100) (hv : ∀ H, KeepD m [] H0 H → RdW 2 H vx (exR L js)) :
    ∀ (n : Nat) (z : Int) (v : V) (H : Heap), n ≤ (exR L js).length → z = (n : Int) - 1 → AccW m 2 H v (dupL ((exR L js).drop n)) → KeepD m [] H0 H →
    ∃ v' H2, itW (evC (callW CT) itW 0 s_gnomonlaw25_UpdateOrder_l0) [] m (frOf 81 [(5, ra), (6, vx), (7, v), (8, .s (.int .i64 z))]) H = some (.ext 0, frOf 81 [(5, ra), (6, vx), (7, v'), (8, .s (.int .i64 (-1))), (24, .s (.bool false))], H2) ∧ AccW m 2 H2 v' (dupL (exR L js)) ∧ KeepD m [] H0 H2 := by
  intro n
  induction n with
  | zero =>
    intro z v H _ hz hA hK
    have hz1 : z = -1 := by omega
    subst hz1
    rw [List.drop_zero] at hA
    have hg : decide ((-1 : Int) ≥ 0) = false := rfl
    rw [itW_step]
    simp only [a_gnomonlaw25_UpdateOrder,s_gnomonlaw25_UpdateOrder_l0_b, am0,am1,am2,am3,am4,am5,am6,am7,bl,i64,reduceIte,reduceCtorEq,Nat.reduceEqDiff,Nat.reduceLT,Nat.reduceLeDiff,Nat.reduceBEq,Nat.reduceAdd,fillA,splice,Nat.reduceMul,al0,al1,al2,al3,al4,al5,al6,al7,al8,al9,al10,al11,al12,al13,al14,al15,al16,al17,al18,al19,al20,al21,al22,al23,al24,al25,al26,al27,al28,al29,al30,al31,al32,al33,al34,amY, hg]
    refine ⟨_, _, rfl, ?_, hK.trim (Nat.le_refl _) _⟩
    rcases hA.trim_or (Nat.le_refl _) (frOf_mem (n := 81) (en := [(5, ra), (6, vx), (7, v), (8, .s (.int .i64 (-1))), (24, .s (.bool false))]) (s := 7) (v := v) (by decide) rfl) with ⟨e, rfl⟩ | e
    · rw [e]; exact AccW.start _ _ _
    · exact hA.keep fun id g n _ => by rw [e]
  | succ n ih =>
    intro z v H hk hz hA hK
    have hkl : n < (exR L js).length := by omega
    have hz' : z = (n : Nat) := by omega
    subst hz'
    have hge : decide ((n : Int) ≥ 0) = true := by simp
    have hwp : IntKind.i64.wrap ((n : Int) - 1) = (n : Int) - 1 := wrap_i64_id (by omega) (by omega)
    obtain ⟨r, hrk⟩ : ∃ r, (exR L js)[n]? = some r := ⟨_, List.getElem?_eq_getElem hkl⟩
    obtain ⟨e, j, hej⟩ : ∃ e j, r = exV e j := by
      have hrk' := hrk
      simp only [exR, List.getElem?_zipWith] at hrk'
      split at hrk'
      · exact ⟨_, _, (Option.some.inj hrk').symm⟩
      · cases hrk'
    obtain ⟨a, ha1, ha2, _⟩ := (hv H hK).at' n _ hrk
    rw [hej] at ha2
    simp only [exV] at ha2
    have hKl := hK.1
    obtain ⟨B, hB⟩ : ∃ B, H ++ [Ob.cells 0 ([exV e j, exV e j].flatten)] = B := ⟨_, rfl⟩
    have kB : KeepD H.length [] H B := ⟨by rw [← hB]; simp, fun id h1 _ => by rw [← hB, List.getElem?_append_left h1]⟩
    have hwr : ∀ r ∈ [exV e j, exV e j], r.length = 2 := by intro r hr; simp at hr; subst hr; rfl
    have hx : elems B 2 (.sl H.length 0 0 2 2) = some ([exV e j, exV e j].length, [exV e j, exV e j].flatten) := by
      rw [← hB]; exact (RdW.sl (R := [exV e j, exV e j]) (getC_new H 0 _) hwr).el
    have hkB := kB.1
    obtain ⟨v', C, eC, aC, lC, kC⟩ := (hA.d kB).append (base := 0) (bytes := 16) (S := [exV e j, exV e j]) (Nat.zero_le _) (by omega) hwr (by simp) hx (by rfl) (by rw [dupL_len, List.length_drop]; simp; omega)
    have hnx : dupL ((exR L js).drop (n + 1)) ++ [exV e j, exV e j] = dupL ((exR L js).drop n) := by
      rw [List.drop_eq_getElem_cons hkl, dupL_cons]
      have : (exR L js)[n] = exV e j := by rw [List.getElem?_eq_getElem hkl] at hrk; rw [← hej]; exact Option.some.inj hrk
      rw [this]
    rw [hnx] at aC
    have hKC : KeepD m [] H0 C := ⟨by omega, fun id h1 _ => by
      rw [kC id (by omega) (fun g n ev => by
        obtain ⟨_, ⟨_, rfl⟩ | ⟨id', g', rfl, _, hid⟩⟩ := hA
        · cases ev
        · cases ev; omega), kB.2 id (by omega) (by simp), hK.2 id h1 (by simp)]⟩
    have htr := aC.trim_eq (L := m) (fr := frOf 81 [(5, ra), (6, vx), (7, v'), (8, .s (.int .i64 ((n : Int) - 1)))]) (fun e0 => by have h1 := dupL_len ((exR L js).drop n); rw [e0, List.length_drop] at h1; simp at h1; omega) (Nat.le_refl _) (frOf_mem (s := 7) (by decide) rfl)
    obtain ⟨v2, H2, e2, s2, k2⟩ := ih ((n : Int) - 1) v' C (by omega) rfl aC hKC
    refine ⟨v2, H2, ?_, s2, k2⟩
    rw [itW_step]
    rw [show [exV e j, exV e j].flatten = [.s (.bool e.1), .ref (j + 1) 0 0, .s (.bool e.1), .ref (j + 1) 0 0] from rfl] at hB
    simp only [a_gnomonlaw25_UpdateOrder,s_gnomonlaw25_UpdateOrder_l0_b, am0,am1,am2,am3,am4,am5,am6,am7,bl,i64,reduceIte,reduceCtorEq,Nat.reduceEqDiff,Nat.reduceLT,Nat.reduceLeDiff,Nat.reduceBEq,Nat.reduceAdd,fillA,splice,Nat.reduceMul,al0,al1,al2,al3,al4,al5,al6,al7,al8,al9,al10,al11,al12,al13,al14,al15,al16,al17,al18,al19,al20,al21,al22,al23,al24,al25,al26,al27,al28,al29,al30,al31,al32,al33,al34,amY, hge, ha1, ha2, hB, eC, hwp, htr, e2]
    done
end
end Go.Proofs.Ytlclbbieacjmfaa
set_option maxRecDepth 100000
namespace Go.Proofs.Ytlclbbieacjmfaa
open Go.AM
abbrev k_gnomonlaw25_UpdateGrows : Nat := 3
def s_gnomonlaw25_UpdateGrows_r0_k : List Nat := [7, 8, 9, 10, 11, 12, 13, 14, 15, 16, 17, 18, 19, 20, 21, 22, 23, 24, 25, 26, 27, 28, 29, 30, 31, 32, 33, 34, 35, 36, 37, 38, 39, 40, 41, 42, 43, 44, 45, 46, 47, 48, 49, 50, 51, 52, 53, 54, 55, 56, 57, 58, 59, 60, 61, 62, 63, 64, 65, 66, 67, 68, 69, 70, 71, 72, 73, 74, 75, 76, 77, 78, 79, 80, 81, 82, 83, 84, 85, 86, 87, 88, 89, 90, 91, 92, 93, 94, 95, 96, 97, 98, 99, 100, 101, 102, 103, 104, 105, 106, 107, 108, 109, 110, 111, 112, 113, 114, 115, 116, 117, 118, 119, 120, 121, 122, 123, 124, 125, 126, 127, 128, 129, 130, 131, 132, 133, 134, 135, 136, 137, 138, 139, 140, 141, 142, 143, 144, 145, 146, 147, 148, 149, 150, 151, 152, 153, 154, 155]
theorem s_gnomonlaw25_UpdateGrows_r0_kT : killV s_gnomonlaw25_UpdateGrows_r0_k (startV 156 [] 7) = [] := by kernel_rfl
theorem s_gnomonlaw25_UpdateGrows_r0_kA0 : s_gnomonlaw25_UpdateGrows_r0_k.contains 0 = false := by kernel_rfl
theorem s_gnomonlaw25_UpdateGrows_r0_kA1 : s_gnomonlaw25_UpdateGrows_r0_k.contains 1 = false := by kernel_rfl
theorem s_gnomonlaw25_UpdateGrows_r0_kA2 : s_gnomonlaw25_UpdateGrows_r0_k.contains 2 = false := by kernel_rfl
theorem s_gnomonlaw25_UpdateGrows_r0_kA3 : s_gnomonlaw25_UpdateGrows_r0_k.contains 3 = false := by kernel_rfl
theorem s_gnomonlaw25_UpdateGrows_r0_kA4 : s_gnomonlaw25_UpdateGrows_r0_k.contains 4 = false := by kernel_rfl
theorem s_gnomonlaw25_UpdateGrows_r0_kA5 : s_gnomonlaw25_UpdateGrows_r0_k.contains 5 = false := by kernel_rfl
theorem s_gnomonlaw25_UpdateGrows_r0_kA6 : s_gnomonlaw25_UpdateGrows_r0_k.contains 6 = false := by kernel_rfl
def s_gnomonlaw25_UpdateGrows_r0 : List AOper := [
  ⟨some 14, (.move (.c (.s (.bool false)))), none⟩]
theorem s_gnomonlaw25_UpdateGrows_r0_tale (fr : List V) (H : Heap) : evTale (symAll s_gnomonlaw25_UpdateGrows_r0 s_gnomonlaw25_UpdateGrows_r0_k []) s_gnomonlaw25_UpdateGrows_r0_k fr H = evTale (some (15, [], [])) s_gnomonlaw25_UpdateGrows_r0_k fr H := tale_row (items := [.cc (.s (.bool false))]) (by kernel_rfl) fr H
def s_gnomonlaw25_UpdateGrows_r1t2 : List AOper := [⟨some 33, (.move (.t 32)), none⟩, ⟨some 34, (.move (.t 6)), some (33, false)⟩, ⟨some 35, (.lenS .s (.t 34)), some (33, false)⟩, ⟨some 36, (.bin .gtr (.t 35) (.c (.s (.int .i64 300)))), some (33, false)⟩, ⟨some 37, (.pick (.t 33) (.c (.s (.bool true))) (.t 36)), none⟩]
def s_gnomonlaw25_UpdateGrows_r1p1 : List AOper := [⟨some 32, (.call (.c (.fn 6 [] [])) [(.t 28), (.t 29), (.t 30), (.t 31)]), none⟩]
def s_gnomonlaw25_UpdateGrows_r1t1 : List AOper := s_gnomonlaw25_UpdateGrows_r1p1 ++ s_gnomonlaw25_UpdateGrows_r1t2
def s_gnomonlaw25_UpdateGrows_r1p0 : List AOper := [⟨some 28, (.move (.t 0)), none⟩, ⟨some 29, (.move (.t 1)), none⟩, ⟨some 30, (.move (.t 2)), none⟩, ⟨some 31, (.move (.t 5)), none⟩]
def s_gnomonlaw25_UpdateGrows_r1 : List AOper := s_gnomonlaw25_UpdateGrows_r1p0 ++ s_gnomonlaw25_UpdateGrows_r1t1
theorem s_gnomonlaw25_UpdateGrows_r1p0_tale (fr : List V) (H : Heap) : evTale (symAll s_gnomonlaw25_UpdateGrows_r1p0 [] [28, 29, 30, 31]) [] fr H = evTale (some (32, [], [(28, (.t 0)), (29, (.t 1)), (30, (.t 2)), (31, (.t 5))])) [] fr H := tale_row (items := [.tt 0, .tt 1, .tt 2, .tt 5]) (by kernel_rfl) fr H
theorem s_gnomonlaw25_UpdateGrows_r1_x (call : CallF) (it : IterF) (base : Nat) (f : List V) (H : Heap) : evC call it base (.region s_gnomonlaw25_UpdateGrows_r1 [] [28, 29, 30, 31, 32, 33, 34, 35, 36]) f H = segC call it base s_gnomonlaw25_UpdateGrows_r1t1 [28, 29, 30, 31, 32, 33, 34, 35, 36] H (evTale (symAll s_gnomonlaw25_UpdateGrows_r1p0 [] [28, 29, 30, 31]) [] f H) (origRow call it base s_gnomonlaw25_UpdateGrows_r1 [28, 29, 30, 31, 32, 33, 34, 35, 36] f H) := row_seg call it base s_gnomonlaw25_UpdateGrows_r1p0 s_gnomonlaw25_UpdateGrows_r1t1 (by kernel_rfl) f H
theorem s_gnomonlaw25_UpdateGrows_r1t1_x (call : CallF) (it : IterF) (base : Nat) (f : List V) (H : Heap) : evC call it base (.region s_gnomonlaw25_UpdateGrows_r1t1 [] [28, 29, 30, 31, 32, 33, 34, 35, 36]) f H = thenC call it base (.region s_gnomonlaw25_UpdateGrows_r1t2 [] [28, 29, 30, 31, 32, 33, 34, 35, 36]) (opsC [] s_gnomonlaw25_UpdateGrows_r1p1 [28, 29, 30, 31] (evOps call base [⟨some 32, (.call (.c (.fn 6 [] [])) [(.t 28), (.t 29), (.t 30), (.t 31)]), none⟩] f H)) := (row_op call it base s_gnomonlaw25_UpdateGrows_r1p1 s_gnomonlaw25_UpdateGrows_r1t2 (kc := [28, 29, 30, 31]) (by kernel_rfl) f H).trans (by rw [row_ops]; rfl)
theorem s_gnomonlaw25_UpdateGrows_r1t2_tale (fr : List V) (H : Heap) : evTale (symAll s_gnomonlaw25_UpdateGrows_r1t2 [28, 29, 30, 31, 32, 33, 34, 35, 36] [37]) [28, 29, 30, 31, 32, 33, 34, 35, 36] fr H = evTale (some (38, [], [(37, (.pick (.t 32) (.c (.s (.bool true))) (.op (.bin .gtr (.t 0) (.c (.s (.int .i64 300)))) [(.op (.lenS .s (.t 0)) [(.t 6)]), (.c (.s (.int .i64 300)))])))])) [28, 29, 30, 31, 32, 33, 34, 35, 36] fr H := tale_row (items := [.tt 32, .sub 0 [2, 0, 0] [33], .sub 0 [2, 0] [33], .sub 0 [2] [33], .sub 0 [] []]) (by kernel_rfl) fr H
theorem s_gnomonlaw25_UpdateGrows_r1t2_x (call : CallF) (it : IterF) (base : Nat) (f : List V) (H : Heap) : evC call it base (.region s_gnomonlaw25_UpdateGrows_r1t2 [] [28, 29, 30, 31, 32, 33, 34, 35, 36]) f H = segL H (evTale (symAll s_gnomonlaw25_UpdateGrows_r1t2 [28, 29, 30, 31, 32, 33, 34, 35, 36] [37]) [28, 29, 30, 31, 32, 33, 34, 35, 36] f H) (origRow call it base s_gnomonlaw25_UpdateGrows_r1t2 [28, 29, 30, 31, 32, 33, 34, 35, 36] f H) := row_last call it base _ f H
def s_gnomonlaw25_UpdateGrows_r2t1 : List AOper := [⟨some 14, (.move (.t 38)), none⟩]
def s_gnomonlaw25_UpdateGrows_r2p0 : List AOper := [⟨some 38, (.call (.c (.fn 7 [] [])) []), none⟩]
def s_gnomonlaw25_UpdateGrows_r2 : List AOper := s_gnomonlaw25_UpdateGrows_r2p0 ++ s_gnomonlaw25_UpdateGrows_r2t1
theorem s_gnomonlaw25_UpdateGrows_r2_x (call : CallF) (it : IterF) (base : Nat) (f : List V) (H : Heap) : evC call it base (.region s_gnomonlaw25_UpdateGrows_r2 [] [0, 1, 2, 3, 4, 5, 6, 37, 38]) f H = thenC call it base (.region s_gnomonlaw25_UpdateGrows_r2t1 [] [0, 1, 2, 3, 4, 5, 6, 37, 38]) (opsC [] s_gnomonlaw25_UpdateGrows_r2p0 [0, 1, 2, 3, 4, 5, 6, 37] (evOps call base [⟨some 38, (.call (.c (.fn 7 [] [])) []), none⟩] f H)) := (row_op call it base s_gnomonlaw25_UpdateGrows_r2p0 s_gnomonlaw25_UpdateGrows_r2t1 (kc := [0, 1, 2, 3, 4, 5, 6, 37]) (by kernel_rfl) f H).trans (by rw [row_ops]; rfl)
theorem s_gnomonlaw25_UpdateGrows_r2t1_tale (fr : List V) (H : Heap) : evTale (symAll s_gnomonlaw25_UpdateGrows_r2t1 [0, 1, 2, 3, 4, 5, 6, 37, 38] [14]) [0, 1, 2, 3, 4, 5, 6, 37, 38] fr H = evTale (some (15, [], [(14, (.t 38))])) [0, 1, 2, 3, 4, 5, 6, 37, 38] fr H := tale_row (items := [.tt 38]) (by kernel_rfl) fr H
theorem s_gnomonlaw25_UpdateGrows_r2t1_x (call : CallF) (it : IterF) (base : Nat) (f : List V) (H : Heap) : evC call it base (.region s_gnomonlaw25_UpdateGrows_r2t1 [] [0, 1, 2, 3, 4, 5, 6, 37, 38]) f H = segL H (evTale (symAll s_gnomonlaw25_UpdateGrows_r2t1 [0, 1, 2, 3, 4, 5, 6, 37, 38] [14]) [0, 1, 2, 3, 4, 5, 6, 37, 38] f H) (origRow call it base s_gnomonlaw25_UpdateGrows_r2t1 [0, 1, 2, 3, 4, 5, 6, 37, 38] f H) := row_last call it base _ f H
def s_gnomonlaw25_UpdateGrows_r3t8 : List AOper := [⟨some 15, (.move (.t 40)), none⟩, ⟨some 16, (.move (.t 42)), none⟩, ⟨some 17, (.move (.t 44)), none⟩, ⟨some 18, (.move (.t 46)), none⟩]
def s_gnomonlaw25_UpdateGrows_r3p7 : List AOper := [⟨some 46, (.call (.c (.fn 8 [] [])) [(.t 45)]), none⟩]
def s_gnomonlaw25_UpdateGrows_r3t7 : List AOper := s_gnomonlaw25_UpdateGrows_r3p7 ++ s_gnomonlaw25_UpdateGrows_r3t8
def s_gnomonlaw25_UpdateGrows_r3p6 : List AOper := [⟨some 45, (.move (.t 6)), none⟩]
def s_gnomonlaw25_UpdateGrows_r3t6 : List AOper := s_gnomonlaw25_UpdateGrows_r3p6 ++ s_gnomonlaw25_UpdateGrows_r3t7
def s_gnomonlaw25_UpdateGrows_r3p5 : List AOper := [⟨some 44, (.call (.c (.fn 8 [] [])) [(.t 43)]), none⟩]
def s_gnomonlaw25_UpdateGrows_r3t5 : List AOper := s_gnomonlaw25_UpdateGrows_r3p5 ++ s_gnomonlaw25_UpdateGrows_r3t6
def s_gnomonlaw25_UpdateGrows_r3p4 : List AOper := [⟨some 43, (.move (.t 2)), none⟩]
def s_gnomonlaw25_UpdateGrows_r3t4 : List AOper := s_gnomonlaw25_UpdateGrows_r3p4 ++ s_gnomonlaw25_UpdateGrows_r3t5
def s_gnomonlaw25_UpdateGrows_r3p3 : List AOper := [⟨some 42, (.call (.c (.fn 8 [] [])) [(.t 41)]), none⟩]
def s_gnomonlaw25_UpdateGrows_r3t3 : List AOper := s_gnomonlaw25_UpdateGrows_r3p3 ++ s_gnomonlaw25_UpdateGrows_r3t4
def s_gnomonlaw25_UpdateGrows_r3p2 : List AOper := [⟨some 41, (.move (.t 1)), none⟩]
def s_gnomonlaw25_UpdateGrows_r3t2 : List AOper := s_gnomonlaw25_UpdateGrows_r3p2 ++ s_gnomonlaw25_UpdateGrows_r3t3
def s_gnomonlaw25_UpdateGrows_r3p1 : List AOper := [⟨some 40, (.call (.c (.fn 8 [] [])) [(.t 39)]), none⟩]
def s_gnomonlaw25_UpdateGrows_r3t1 : List AOper := s_gnomonlaw25_UpdateGrows_r3p1 ++ s_gnomonlaw25_UpdateGrows_r3t2
def s_gnomonlaw25_UpdateGrows_r3p0 : List AOper := [⟨some 39, (.move (.t 0)), none⟩]
def s_gnomonlaw25_UpdateGrows_r3 : List AOper := s_gnomonlaw25_UpdateGrows_r3p0 ++ s_gnomonlaw25_UpdateGrows_r3t1
theorem s_gnomonlaw25_UpdateGrows_r3p0_tale (fr : List V) (H : Heap) : evTale (symAll s_gnomonlaw25_UpdateGrows_r3p0 [0, 37] [39]) [0, 37] fr H = evTale (some (40, [], [(39, (.t 0))])) [0, 37] fr H := tale_row (items := [.tt 0]) (by kernel_rfl) fr H
theorem s_gnomonlaw25_UpdateGrows_r3_x (call : CallF) (it : IterF) (base : Nat) (f : List V) (H : Heap) : evC call it base (.region s_gnomonlaw25_UpdateGrows_r3 [] [0, 1, 2, 37, 39, 40, 41, 42, 43, 44, 45, 46]) f H = segC call it base s_gnomonlaw25_UpdateGrows_r3t1 [0, 1, 2, 37, 39, 40, 41, 42, 43, 44, 45, 46] H (evTale (symAll s_gnomonlaw25_UpdateGrows_r3p0 [0, 37] [39]) [0, 37] f H) (origRow call it base s_gnomonlaw25_UpdateGrows_r3 [0, 1, 2, 37, 39, 40, 41, 42, 43, 44, 45, 46] f H) := row_seg call it base s_gnomonlaw25_UpdateGrows_r3p0 s_gnomonlaw25_UpdateGrows_r3t1 (by kernel_rfl) f H
theorem s_gnomonlaw25_UpdateGrows_r3t1_x (call : CallF) (it : IterF) (base : Nat) (f : List V) (H : Heap) : evC call it base (.region s_gnomonlaw25_UpdateGrows_r3t1 [] [0, 1, 2, 37, 39, 40, 41, 42, 43, 44, 45, 46]) f H = thenC call it base (.region s_gnomonlaw25_UpdateGrows_r3t2 [] [0, 1, 2, 37, 39, 40, 41, 42, 43, 44, 45, 46]) (opsC [] s_gnomonlaw25_UpdateGrows_r3p1 [39] (evOps call base [⟨some 40, (.call (.c (.fn 8 [] [])) [(.t 39)]), none⟩] f H)) := (row_op call it base s_gnomonlaw25_UpdateGrows_r3p1 s_gnomonlaw25_UpdateGrows_r3t2 (kc := [39]) (by kernel_rfl) f H).trans (by rw [row_ops]; rfl)
theorem s_gnomonlaw25_UpdateGrows_r3p2_tale (fr : List V) (H : Heap) : evTale (symAll s_gnomonlaw25_UpdateGrows_r3p2 [1] [41]) [1] fr H = evTale (some (42, [], [(41, (.t 1))])) [1] fr H := tale_row (items := [.tt 1]) (by kernel_rfl) fr H
theorem s_gnomonlaw25_UpdateGrows_r3t2_x (call : CallF) (it : IterF) (base : Nat) (f : List V) (H : Heap) : evC call it base (.region s_gnomonlaw25_UpdateGrows_r3t2 [] [0, 1, 2, 37, 39, 40, 41, 42, 43, 44, 45, 46]) f H = segC call it base s_gnomonlaw25_UpdateGrows_r3t3 [0, 1, 2, 37, 39, 40, 41, 42, 43, 44, 45, 46] H (evTale (symAll s_gnomonlaw25_UpdateGrows_r3p2 [1] [41]) [1] f H) (origRow call it base s_gnomonlaw25_UpdateGrows_r3t2 [0, 1, 2, 37, 39, 40, 41, 42, 43, 44, 45, 46] f H) := row_seg call it base s_gnomonlaw25_UpdateGrows_r3p2 s_gnomonlaw25_UpdateGrows_r3t3 (by kernel_rfl) f H
theorem s_gnomonlaw25_UpdateGrows_r3t3_x (call : CallF) (it : IterF) (base : Nat) (f : List V) (H : Heap) : evC call it base (.region s_gnomonlaw25_UpdateGrows_r3t3 [] [0, 1, 2, 37, 39, 40, 41, 42, 43, 44, 45, 46]) f H = thenC call it base (.region s_gnomonlaw25_UpdateGrows_r3t4 [] [0, 1, 2, 37, 39, 40, 41, 42, 43, 44, 45, 46]) (opsC [] s_gnomonlaw25_UpdateGrows_r3p3 [41] (evOps call base [⟨some 42, (.call (.c (.fn 8 [] [])) [(.t 41)]), none⟩] f H)) := (row_op call it base s_gnomonlaw25_UpdateGrows_r3p3 s_gnomonlaw25_UpdateGrows_r3t4 (kc := [41]) (by kernel_rfl) f H).trans (by rw [row_ops]; rfl)
theorem s_gnomonlaw25_UpdateGrows_r3p4_tale (fr : List V) (H : Heap) : evTale (symAll s_gnomonlaw25_UpdateGrows_r3p4 [2] [43]) [2] fr H = evTale (some (44, [], [(43, (.t 2))])) [2] fr H := tale_row (items := [.tt 2]) (by kernel_rfl) fr H
theorem s_gnomonlaw25_UpdateGrows_r3t4_x (call : CallF) (it : IterF) (base : Nat) (f : List V) (H : Heap) : evC call it base (.region s_gnomonlaw25_UpdateGrows_r3t4 [] [0, 1, 2, 37, 39, 40, 41, 42, 43, 44, 45, 46]) f H = segC call it base s_gnomonlaw25_UpdateGrows_r3t5 [0, 1, 2, 37, 39, 40, 41, 42, 43, 44, 45, 46] H (evTale (symAll s_gnomonlaw25_UpdateGrows_r3p4 [2] [43]) [2] f H) (origRow call it base s_gnomonlaw25_UpdateGrows_r3t4 [0, 1, 2, 37, 39, 40, 41, 42, 43, 44, 45, 46] f H) := row_seg call it base s_gnomonlaw25_UpdateGrows_r3p4 s_gnomonlaw25_UpdateGrows_r3t5 (by kernel_rfl) f H
theorem s_gnomonlaw25_UpdateGrows_r3t5_x (call : CallF) (it : IterF) (base : Nat) (f : List V) (H : Heap) : evC call it base (.region s_gnomonlaw25_UpdateGrows_r3t5 [] [0, 1, 2, 37, 39, 40, 41, 42, 43, 44, 45, 46]) f H = thenC call it base (.region s_gnomonlaw25_UpdateGrows_r3t6 [] [0, 1, 2, 37, 39, 40, 41, 42, 43, 44, 45, 46]) (opsC [] s_gnomonlaw25_UpdateGrows_r3p5 [43] (evOps call base [⟨some 44, (.call (.c (.fn 8 [] [])) [(.t 43)]), none⟩] f H)) := (row_op call it base s_gnomonlaw25_UpdateGrows_r3p5 s_gnomonlaw25_UpdateGrows_r3t6 (kc := [43]) (by kernel_rfl) f H).trans (by rw [row_ops]; rfl)
theorem s_gnomonlaw25_UpdateGrows_r3p6_tale (fr : List V) (H : Heap) : evTale (symAll s_gnomonlaw25_UpdateGrows_r3p6 [] [45]) [] fr H = evTale (some (46, [], [(45, (.t 6))])) [] fr H := tale_row (items := [.tt 6]) (by kernel_rfl) fr H
theorem s_gnomonlaw25_UpdateGrows_r3t6_x (call : CallF) (it : IterF) (base : Nat) (f : List V) (H : Heap) : evC call it base (.region s_gnomonlaw25_UpdateGrows_r3t6 [] [0, 1, 2, 37, 39, 40, 41, 42, 43, 44, 45, 46]) f H = segC call it base s_gnomonlaw25_UpdateGrows_r3t7 [0, 1, 2, 37, 39, 40, 41, 42, 43, 44, 45, 46] H (evTale (symAll s_gnomonlaw25_UpdateGrows_r3p6 [] [45]) [] f H) (origRow call it base s_gnomonlaw25_UpdateGrows_r3t6 [0, 1, 2, 37, 39, 40, 41, 42, 43, 44, 45, 46] f H) := row_seg call it base s_gnomonlaw25_UpdateGrows_r3p6 s_gnomonlaw25_UpdateGrows_r3t7 (by kernel_rfl) f H
theorem s_gnomonlaw25_UpdateGrows_r3t7_x (call : CallF) (it : IterF) (base : Nat) (f : List V) (H : Heap) : evC call it base (.region s_gnomonlaw25_UpdateGrows_r3t7 [] [0, 1, 2, 37, 39, 40, 41, 42, 43, 44, 45, 46]) f H = thenC call it base (.region s_gnomonlaw25_UpdateGrows_r3t8 [] [0, 1, 2, 37, 39, 40, 41, 42, 43, 44, 45, 46]) (opsC [] s_gnomonlaw25_UpdateGrows_r3p7 [45] (evOps call base [⟨some 46, (.call (.c (.fn 8 [] [])) [(.t 45)]), none⟩] f H)) := (row_op call it base s_gnomonlaw25_UpdateGrows_r3p7 s_gnomonlaw25_UpdateGrows_r3t8 (kc := [45]) (by kernel_rfl) f H).trans (by rw [row_ops]; rfl)
theorem s_gnomonlaw25_UpdateGrows_r3t8_tale (fr : List V) (H : Heap) : evTale (symAll s_gnomonlaw25_UpdateGrows_r3t8 [0, 1, 2, 37, 39, 40, 41, 42, 43, 44, 45, 46] [15, 16, 17, 18]) [0, 1, 2, 37, 39, 40, 41, 42, 43, 44, 45, 46] fr H = evTale (some (19, [], [(15, (.t 40)), (16, (.t 42)), (17, (.t 44)), (18, (.t 46))])) [0, 1, 2, 37, 39, 40, 41, 42, 43, 44, 45, 46] fr H := tale_row (items := [.tt 40, .tt 42, .tt 44, .tt 46]) (by kernel_rfl) fr H
theorem s_gnomonlaw25_UpdateGrows_r3t8_x (call : CallF) (it : IterF) (base : Nat) (f : List V) (H : Heap) : evC call it base (.region s_gnomonlaw25_UpdateGrows_r3t8 [] [0, 1, 2, 37, 39, 40, 41, 42, 43, 44, 45, 46]) f H = segL H (evTale (symAll s_gnomonlaw25_UpdateGrows_r3t8 [0, 1, 2, 37, 39, 40, 41, 42, 43, 44, 45, 46] [15, 16, 17, 18]) [0, 1, 2, 37, 39, 40, 41, 42, 43, 44, 45, 46] f H) (origRow call it base s_gnomonlaw25_UpdateGrows_r3t8 [0, 1, 2, 37, 39, 40, 41, 42, 43, 44, 45, 46] f H) := row_last call it base _ f H
def s_gnomonlaw25_UpdateGrows_r4t2 : List AOper := [⟨some 19, (.move (.t 52)), none⟩]
def s_gnomonlaw25_UpdateGrows_r4p1 : List AOper := [⟨some 52, (.call (.c (.fn 9 [] [])) [(.t 47), (.t 48), (.t 49), (.t 50), (.t 51)]), none⟩]
def s_gnomonlaw25_UpdateGrows_r4t1 : List AOper := s_gnomonlaw25_UpdateGrows_r4p1 ++ s_gnomonlaw25_UpdateGrows_r4t2
def s_gnomonlaw25_UpdateGrows_r4p0 : List AOper := [⟨some 47, (.move (.t 15)), none⟩, ⟨some 48, (.move (.t 16)), none⟩, ⟨some 49, (.move (.t 17)), none⟩, ⟨some 50, (.move (.t 3)), none⟩, ⟨some 51, (.move (.t 4)), none⟩]
def s_gnomonlaw25_UpdateGrows_r4 : List AOper := s_gnomonlaw25_UpdateGrows_r4p0 ++ s_gnomonlaw25_UpdateGrows_r4t1
theorem s_gnomonlaw25_UpdateGrows_r4p0_tale (fr : List V) (H : Heap) : evTale (symAll s_gnomonlaw25_UpdateGrows_r4p0 [] [47, 48, 49, 50, 51]) [] fr H = evTale (some (52, [], [(47, (.t 15)), (48, (.t 16)), (49, (.t 17)), (50, (.t 3)), (51, (.t 4))])) [] fr H := tale_row (items := [.tt 15, .tt 16, .tt 17, .tt 3, .tt 4]) (by kernel_rfl) fr H
theorem s_gnomonlaw25_UpdateGrows_r4_x (call : CallF) (it : IterF) (base : Nat) (f : List V) (H : Heap) : evC call it base (.region s_gnomonlaw25_UpdateGrows_r4 [] [47, 48, 49, 50, 51, 52]) f H = segC call it base s_gnomonlaw25_UpdateGrows_r4t1 [47, 48, 49, 50, 51, 52] H (evTale (symAll s_gnomonlaw25_UpdateGrows_r4p0 [] [47, 48, 49, 50, 51]) [] f H) (origRow call it base s_gnomonlaw25_UpdateGrows_r4 [47, 48, 49, 50, 51, 52] f H) := row_seg call it base s_gnomonlaw25_UpdateGrows_r4p0 s_gnomonlaw25_UpdateGrows_r4t1 (by kernel_rfl) f H
theorem s_gnomonlaw25_UpdateGrows_r4t1_x (call : CallF) (it : IterF) (base : Nat) (f : List V) (H : Heap) : evC call it base (.region s_gnomonlaw25_UpdateGrows_r4t1 [] [47, 48, 49, 50, 51, 52]) f H = thenC call it base (.region s_gnomonlaw25_UpdateGrows_r4t2 [] [47, 48, 49, 50, 51, 52]) (opsC [] s_gnomonlaw25_UpdateGrows_r4p1 [47, 48, 49, 50, 51] (evOps call base [⟨some 52, (.call (.c (.fn 9 [] [])) [(.t 47), (.t 48), (.t 49), (.t 50), (.t 51)]), none⟩] f H)) := (row_op call it base s_gnomonlaw25_UpdateGrows_r4p1 s_gnomonlaw25_UpdateGrows_r4t2 (kc := [47, 48, 49, 50, 51]) (by kernel_rfl) f H).trans (by rw [row_ops]; rfl)
theorem s_gnomonlaw25_UpdateGrows_r4t2_tale (fr : List V) (H : Heap) : evTale (symAll s_gnomonlaw25_UpdateGrows_r4t2 [47, 48, 49, 50, 51, 52] [19]) [47, 48, 49, 50, 51, 52] fr H = evTale (some (20, [], [(19, (.t 52))])) [47, 48, 49, 50, 51, 52] fr H := tale_row (items := [.tt 52]) (by kernel_rfl) fr H
theorem s_gnomonlaw25_UpdateGrows_r4t2_x (call : CallF) (it : IterF) (base : Nat) (f : List V) (H : Heap) : evC call it base (.region s_gnomonlaw25_UpdateGrows_r4t2 [] [47, 48, 49, 50, 51, 52]) f H = segL H (evTale (symAll s_gnomonlaw25_UpdateGrows_r4t2 [47, 48, 49, 50, 51, 52] [19]) [47, 48, 49, 50, 51, 52] f H) (origRow call it base s_gnomonlaw25_UpdateGrows_r4t2 [47, 48, 49, 50, 51, 52] f H) := row_last call it base _ f H
def s_gnomonlaw25_UpdateGrows_r5t3 : List AOper := [⟨some 20, (.move (.t 56)), none⟩]
def s_gnomonlaw25_UpdateGrows_r5p2 : List AOper := [⟨some 56, (.call (.c (.fn 10 [] [])) [(.t 53), (.t 55)]), none⟩]
def s_gnomonlaw25_UpdateGrows_r5t2 : List AOper := s_gnomonlaw25_UpdateGrows_r5p2 ++ s_gnomonlaw25_UpdateGrows_r5t3
def s_gnomonlaw25_UpdateGrows_r5p1 : List AOper := [⟨some 55, (.call (.c (.fn 11 [] [])) [(.t 54)]), none⟩]
def s_gnomonlaw25_UpdateGrows_r5t1 : List AOper := s_gnomonlaw25_UpdateGrows_r5p1 ++ s_gnomonlaw25_UpdateGrows_r5t2
def s_gnomonlaw25_UpdateGrows_r5p0 : List AOper := [⟨some 53, (.move (.t 15)), none⟩, ⟨some 54, (.move (.t 5)), none⟩]
def s_gnomonlaw25_UpdateGrows_r5 : List AOper := s_gnomonlaw25_UpdateGrows_r5p0 ++ s_gnomonlaw25_UpdateGrows_r5t1
theorem s_gnomonlaw25_UpdateGrows_r5p0_tale (fr : List V) (H : Heap) : evTale (symAll s_gnomonlaw25_UpdateGrows_r5p0 [] [53, 54]) [] fr H = evTale (some (55, [], [(53, (.t 15)), (54, (.t 5))])) [] fr H := tale_row (items := [.tt 15, .tt 5]) (by kernel_rfl) fr H
theorem s_gnomonlaw25_UpdateGrows_r5_x (call : CallF) (it : IterF) (base : Nat) (f : List V) (H : Heap) : evC call it base (.region s_gnomonlaw25_UpdateGrows_r5 [] [53, 54, 55, 56]) f H = segC call it base s_gnomonlaw25_UpdateGrows_r5t1 [53, 54, 55, 56] H (evTale (symAll s_gnomonlaw25_UpdateGrows_r5p0 [] [53, 54]) [] f H) (origRow call it base s_gnomonlaw25_UpdateGrows_r5 [53, 54, 55, 56] f H) := row_seg call it base s_gnomonlaw25_UpdateGrows_r5p0 s_gnomonlaw25_UpdateGrows_r5t1 (by kernel_rfl) f H
theorem s_gnomonlaw25_UpdateGrows_r5t1_x (call : CallF) (it : IterF) (base : Nat) (f : List V) (H : Heap) : evC call it base (.region s_gnomonlaw25_UpdateGrows_r5t1 [] [53, 54, 55, 56]) f H = thenC call it base (.region s_gnomonlaw25_UpdateGrows_r5t2 [] [53, 54, 55, 56]) (opsC [] s_gnomonlaw25_UpdateGrows_r5p1 [54] (evOps call base [⟨some 55, (.call (.c (.fn 11 [] [])) [(.t 54)]), none⟩] f H)) := (row_op call it base s_gnomonlaw25_UpdateGrows_r5p1 s_gnomonlaw25_UpdateGrows_r5t2 (kc := [54]) (by kernel_rfl) f H).trans (by rw [row_ops]; rfl)
theorem s_gnomonlaw25_UpdateGrows_r5t2_x (call : CallF) (it : IterF) (base : Nat) (f : List V) (H : Heap) : evC call it base (.region s_gnomonlaw25_UpdateGrows_r5t2 [] [53, 54, 55, 56]) f H = thenC call it base (.region s_gnomonlaw25_UpdateGrows_r5t3 [] [53, 54, 55, 56]) (opsC [] s_gnomonlaw25_UpdateGrows_r5p2 [53, 55] (evOps call base [⟨some 56, (.call (.c (.fn 10 [] [])) [(.t 53), (.t 55)]), none⟩] f H)) := (row_op call it base s_gnomonlaw25_UpdateGrows_r5p2 s_gnomonlaw25_UpdateGrows_r5t3 (kc := [53, 55]) (by kernel_rfl) f H).trans (by rw [row_ops]; rfl)
theorem s_gnomonlaw25_UpdateGrows_r5t3_tale (fr : List V) (H : Heap) : evTale (symAll s_gnomonlaw25_UpdateGrows_r5t3 [53, 54, 55, 56] [20]) [53, 54, 55, 56] fr H = evTale (some (21, [], [(20, (.t 56))])) [53, 54, 55, 56] fr H := tale_row (items := [.tt 56]) (by kernel_rfl) fr H
theorem s_gnomonlaw25_UpdateGrows_r5t3_x (call : CallF) (it : IterF) (base : Nat) (f : List V) (H : Heap) : evC call it base (.region s_gnomonlaw25_UpdateGrows_r5t3 [] [53, 54, 55, 56]) f H = segL H (evTale (symAll s_gnomonlaw25_UpdateGrows_r5t3 [53, 54, 55, 56] [20]) [53, 54, 55, 56] f H) (origRow call it base s_gnomonlaw25_UpdateGrows_r5t3 [53, 54, 55, 56] f H) := row_last call it base _ f H
def s_gnomonlaw25_UpdateGrows_r6t2 : List AOper := [⟨some 21, (.move (.t 58)), none⟩]
def s_gnomonlaw25_UpdateGrows_r6p1 : List AOper := [⟨some 58, (.call (.c (.fn 12 [] [])) [(.t 57)]), none⟩]
def s_gnomonlaw25_UpdateGrows_r6t1 : List AOper := s_gnomonlaw25_UpdateGrows_r6p1 ++ s_gnomonlaw25_UpdateGrows_r6t2
def s_gnomonlaw25_UpdateGrows_r6p0 : List AOper := [⟨some 57, (.move (.t 15)), none⟩]
def s_gnomonlaw25_UpdateGrows_r6 : List AOper := s_gnomonlaw25_UpdateGrows_r6p0 ++ s_gnomonlaw25_UpdateGrows_r6t1
theorem s_gnomonlaw25_UpdateGrows_r6p0_tale (fr : List V) (H : Heap) : evTale (symAll s_gnomonlaw25_UpdateGrows_r6p0 [] [57]) [] fr H = evTale (some (58, [], [(57, (.t 15))])) [] fr H := tale_row (items := [.tt 15]) (by kernel_rfl) fr H
theorem s_gnomonlaw25_UpdateGrows_r6_x (call : CallF) (it : IterF) (base : Nat) (f : List V) (H : Heap) : evC call it base (.region s_gnomonlaw25_UpdateGrows_r6 [] [57, 58]) f H = segC call it base s_gnomonlaw25_UpdateGrows_r6t1 [57, 58] H (evTale (symAll s_gnomonlaw25_UpdateGrows_r6p0 [] [57]) [] f H) (origRow call it base s_gnomonlaw25_UpdateGrows_r6 [57, 58] f H) := row_seg call it base s_gnomonlaw25_UpdateGrows_r6p0 s_gnomonlaw25_UpdateGrows_r6t1 (by kernel_rfl) f H
theorem s_gnomonlaw25_UpdateGrows_r6t1_x (call : CallF) (it : IterF) (base : Nat) (f : List V) (H : Heap) : evC call it base (.region s_gnomonlaw25_UpdateGrows_r6t1 [] [57, 58]) f H = thenC call it base (.region s_gnomonlaw25_UpdateGrows_r6t2 [] [57, 58]) (opsC [] s_gnomonlaw25_UpdateGrows_r6p1 [57] (evOps call base [⟨some 58, (.call (.c (.fn 12 [] [])) [(.t 57)]), none⟩] f H)) := (row_op call it base s_gnomonlaw25_UpdateGrows_r6p1 s_gnomonlaw25_UpdateGrows_r6t2 (kc := [57]) (by kernel_rfl) f H).trans (by rw [row_ops]; rfl)
theorem s_gnomonlaw25_UpdateGrows_r6t2_tale (fr : List V) (H : Heap) : evTale (symAll s_gnomonlaw25_UpdateGrows_r6t2 [57, 58] [21]) [57, 58] fr H = evTale (some (22, [], [(21, (.t 58))])) [57, 58] fr H := tale_row (items := [.tt 58]) (by kernel_rfl) fr H
theorem s_gnomonlaw25_UpdateGrows_r6t2_x (call : CallF) (it : IterF) (base : Nat) (f : List V) (H : Heap) : evC call it base (.region s_gnomonlaw25_UpdateGrows_r6t2 [] [57, 58]) f H = segL H (evTale (symAll s_gnomonlaw25_UpdateGrows_r6t2 [57, 58] [21]) [57, 58] f H) (origRow call it base s_gnomonlaw25_UpdateGrows_r6t2 [57, 58] f H) := row_last call it base _ f H
def s_gnomonlaw25_UpdateGrows_r7t1 : List AOper := [⟨some 61, (.call (.c (.fn 13 [] [])) [(.t 59), (.t 60)]), none⟩]
def s_gnomonlaw25_UpdateGrows_r7p0 : List AOper := [⟨some 59, (.move (.t 21)), none⟩, ⟨some 60, (.move (.t 16)), none⟩]
def s_gnomonlaw25_UpdateGrows_r7 : List AOper := s_gnomonlaw25_UpdateGrows_r7p0 ++ s_gnomonlaw25_UpdateGrows_r7t1
theorem s_gnomonlaw25_UpdateGrows_r7p0_tale (fr : List V) (H : Heap) : evTale (symAll s_gnomonlaw25_UpdateGrows_r7p0 [] [59, 60]) [] fr H = evTale (some (61, [], [(59, (.t 21)), (60, (.t 16))])) [] fr H := tale_row (items := [.tt 21, .tt 16]) (by kernel_rfl) fr H
theorem s_gnomonlaw25_UpdateGrows_r7_x (call : CallF) (it : IterF) (base : Nat) (f : List V) (H : Heap) : evC call it base (.region s_gnomonlaw25_UpdateGrows_r7 [] [59, 60, 61]) f H = segC call it base s_gnomonlaw25_UpdateGrows_r7t1 [59, 60, 61] H (evTale (symAll s_gnomonlaw25_UpdateGrows_r7p0 [] [59, 60]) [] f H) (origRow call it base s_gnomonlaw25_UpdateGrows_r7 [59, 60, 61] f H) := row_seg call it base s_gnomonlaw25_UpdateGrows_r7p0 s_gnomonlaw25_UpdateGrows_r7t1 (by kernel_rfl) f H
theorem s_gnomonlaw25_UpdateGrows_r7t1_x (call : CallF) (it : IterF) (base : Nat) (f : List V) (H : Heap) : evC call it base (.region s_gnomonlaw25_UpdateGrows_r7t1 [] [59, 60, 61]) f H = opsC [] s_gnomonlaw25_UpdateGrows_r7t1 [59, 60, 61] (evOps call base [⟨some 61, (.call (.c (.fn 13 [] [])) [(.t 59), (.t 60)]), none⟩] f H) := row_ops call it base _ _ _ f H
def s_gnomonlaw25_UpdateGrows_r8t2 : List AOper := [⟨some 65, (.un .not (.t 64)), none⟩]
def s_gnomonlaw25_UpdateGrows_r8p1 : List AOper := [⟨some 64, (.call (.c (.fn 14 [] [])) [(.t 62), (.t 63)]), none⟩]
def s_gnomonlaw25_UpdateGrows_r8t1 : List AOper := s_gnomonlaw25_UpdateGrows_r8p1 ++ s_gnomonlaw25_UpdateGrows_r8t2
def s_gnomonlaw25_UpdateGrows_r8p0 : List AOper := [⟨some 62, (.move (.t 19)), none⟩, ⟨some 63, (.move (.t 21)), none⟩]
def s_gnomonlaw25_UpdateGrows_r8 : List AOper := s_gnomonlaw25_UpdateGrows_r8p0 ++ s_gnomonlaw25_UpdateGrows_r8t1
theorem s_gnomonlaw25_UpdateGrows_r8p0_tale (fr : List V) (H : Heap) : evTale (symAll s_gnomonlaw25_UpdateGrows_r8p0 [] [62, 63]) [] fr H = evTale (some (64, [], [(62, (.t 19)), (63, (.t 21))])) [] fr H := tale_row (items := [.tt 19, .tt 21]) (by kernel_rfl) fr H
theorem s_gnomonlaw25_UpdateGrows_r8_x (call : CallF) (it : IterF) (base : Nat) (f : List V) (H : Heap) : evC call it base (.region s_gnomonlaw25_UpdateGrows_r8 [] [62, 63, 64]) f H = segC call it base s_gnomonlaw25_UpdateGrows_r8t1 [62, 63, 64] H (evTale (symAll s_gnomonlaw25_UpdateGrows_r8p0 [] [62, 63]) [] f H) (origRow call it base s_gnomonlaw25_UpdateGrows_r8 [62, 63, 64] f H) := row_seg call it base s_gnomonlaw25_UpdateGrows_r8p0 s_gnomonlaw25_UpdateGrows_r8t1 (by kernel_rfl) f H
theorem s_gnomonlaw25_UpdateGrows_r8t1_x (call : CallF) (it : IterF) (base : Nat) (f : List V) (H : Heap) : evC call it base (.region s_gnomonlaw25_UpdateGrows_r8t1 [] [62, 63, 64]) f H = thenC call it base (.region s_gnomonlaw25_UpdateGrows_r8t2 [] [62, 63, 64]) (opsC [] s_gnomonlaw25_UpdateGrows_r8p1 [62, 63] (evOps call base [⟨some 64, (.call (.c (.fn 14 [] [])) [(.t 62), (.t 63)]), none⟩] f H)) := (row_op call it base s_gnomonlaw25_UpdateGrows_r8p1 s_gnomonlaw25_UpdateGrows_r8t2 (kc := [62, 63]) (by kernel_rfl) f H).trans (by rw [row_ops]; rfl)
theorem s_gnomonlaw25_UpdateGrows_r8t2_tale (fr : List V) (H : Heap) : evTale (symAll s_gnomonlaw25_UpdateGrows_r8t2 [62, 63, 64] [65]) [62, 63, 64] fr H = evTale (some (66, [], [(65, (.op (.un .not (.t 0)) [(.t 64)]))])) [62, 63, 64] fr H := tale_row (items := [.sub 0 [] []]) (by kernel_rfl) fr H
theorem s_gnomonlaw25_UpdateGrows_r8t2_x (call : CallF) (it : IterF) (base : Nat) (f : List V) (H : Heap) : evC call it base (.region s_gnomonlaw25_UpdateGrows_r8t2 [] [62, 63, 64]) f H = segL H (evTale (symAll s_gnomonlaw25_UpdateGrows_r8t2 [62, 63, 64] [65]) [62, 63, 64] f H) (origRow call it base s_gnomonlaw25_UpdateGrows_r8t2 [62, 63, 64] f H) := row_last call it base _ f H
def s_gnomonlaw25_UpdateGrows_r9 : List AOper := [
  ⟨some 14, (.move (.c (.s (.bool false)))), none⟩]
theorem s_gnomonlaw25_UpdateGrows_r9_tale (fr : List V) (H : Heap) : evTale (symAll s_gnomonlaw25_UpdateGrows_r9 [3, 4, 5, 6, 15, 16, 17, 18, 19, 20, 21, 65] [14]) [3, 4, 5, 6, 15, 16, 17, 18, 19, 20, 21, 65] fr H = evTale (some (15, [], [(14, (.c (.s (.bool false))))])) [3, 4, 5, 6, 15, 16, 17, 18, 19, 20, 21, 65] fr H := tale_row (items := [.cc (.s (.bool false))]) (by kernel_rfl) fr H
def s_gnomonlaw25_UpdateGrows_r10 : List AOper := [
  ⟨some 22, (.move (.c (.s (.int .i64 1)))), none⟩]
theorem s_gnomonlaw25_UpdateGrows_r10_tale (fr : List V) (H : Heap) : evTale (symAll s_gnomonlaw25_UpdateGrows_r10 [65] [22]) [65] fr H = evTale (some (23, [], [(22, (.c (.s (.int .i64 1))))])) [65] fr H := tale_row (items := [.cc (.s (.int .i64 1))]) (by kernel_rfl) fr H
def s_gnomonlaw25_UpdateGrows_r11 : List AOper := [
  ⟨some 66, (.move (.t 22)), none⟩,
  ⟨some 67, (.bin .lss (.t 66) (.c (.s (.int .i64 8)))), none⟩]
theorem s_gnomonlaw25_UpdateGrows_r11_tale (fr : List V) (H : Heap) : evTale (symAll s_gnomonlaw25_UpdateGrows_r11 [66] [67]) [66] fr H = evTale (some (68, [], [(67, (.op (.bin .lss (.t 0) (.c (.s (.int .i64 8)))) [(.t 22), (.c (.s (.int .i64 8)))]))])) [66] fr H := tale_row (items := [.tt 22, .sub 0 [] []]) (by kernel_rfl) fr H
def s_gnomonlaw25_UpdateGrows_r12t6 : List AOper := [⟨some 23, (.move (.t 71)), none⟩, ⟨some 24, (.move (.t 73)), none⟩, ⟨some 25, (.move (.t 75)), none⟩]
def s_gnomonlaw25_UpdateGrows_r12p5 : List AOper := [⟨some 75, (.call (.c (.fn 12 [] [])) [(.t 74)]), none⟩]
def s_gnomonlaw25_UpdateGrows_r12t5 : List AOper := s_gnomonlaw25_UpdateGrows_r12p5 ++ s_gnomonlaw25_UpdateGrows_r12t6
def s_gnomonlaw25_UpdateGrows_r12p4 : List AOper := [⟨some 74, (.move (.t 17)), none⟩]
def s_gnomonlaw25_UpdateGrows_r12t4 : List AOper := s_gnomonlaw25_UpdateGrows_r12p4 ++ s_gnomonlaw25_UpdateGrows_r12t5
def s_gnomonlaw25_UpdateGrows_r12p3 : List AOper := [⟨some 73, (.call (.c (.fn 12 [] [])) [(.t 72)]), none⟩]
def s_gnomonlaw25_UpdateGrows_r12t3 : List AOper := s_gnomonlaw25_UpdateGrows_r12p3 ++ s_gnomonlaw25_UpdateGrows_r12t4
def s_gnomonlaw25_UpdateGrows_r12p2 : List AOper := [⟨some 72, (.move (.t 16)), none⟩]
def s_gnomonlaw25_UpdateGrows_r12t2 : List AOper := s_gnomonlaw25_UpdateGrows_r12p2 ++ s_gnomonlaw25_UpdateGrows_r12t3
def s_gnomonlaw25_UpdateGrows_r12p1 : List AOper := [⟨some 71, (.call (.c (.fn 12 [] [])) [(.t 70)]), none⟩]
def s_gnomonlaw25_UpdateGrows_r12t1 : List AOper := s_gnomonlaw25_UpdateGrows_r12p1 ++ s_gnomonlaw25_UpdateGrows_r12t2
def s_gnomonlaw25_UpdateGrows_r12p0 : List AOper := [⟨some 70, (.move (.t 15)), none⟩]
def s_gnomonlaw25_UpdateGrows_r12 : List AOper := s_gnomonlaw25_UpdateGrows_r12p0 ++ s_gnomonlaw25_UpdateGrows_r12t1
theorem s_gnomonlaw25_UpdateGrows_r12p0_tale (fr : List V) (H : Heap) : evTale (symAll s_gnomonlaw25_UpdateGrows_r12p0 [67] [70]) [67] fr H = evTale (some (71, [], [(70, (.t 15))])) [67] fr H := tale_row (items := [.tt 15]) (by kernel_rfl) fr H
theorem s_gnomonlaw25_UpdateGrows_r12_x (call : CallF) (it : IterF) (base : Nat) (f : List V) (H : Heap) : evC call it base (.region s_gnomonlaw25_UpdateGrows_r12 [] [67, 70, 71, 72, 73, 74, 75]) f H = segC call it base s_gnomonlaw25_UpdateGrows_r12t1 [67, 70, 71, 72, 73, 74, 75] H (evTale (symAll s_gnomonlaw25_UpdateGrows_r12p0 [67] [70]) [67] f H) (origRow call it base s_gnomonlaw25_UpdateGrows_r12 [67, 70, 71, 72, 73, 74, 75] f H) := row_seg call it base s_gnomonlaw25_UpdateGrows_r12p0 s_gnomonlaw25_UpdateGrows_r12t1 (by kernel_rfl) f H
theorem s_gnomonlaw25_UpdateGrows_r12t1_x (call : CallF) (it : IterF) (base : Nat) (f : List V) (H : Heap) : evC call it base (.region s_gnomonlaw25_UpdateGrows_r12t1 [] [67, 70, 71, 72, 73, 74, 75]) f H = thenC call it base (.region s_gnomonlaw25_UpdateGrows_r12t2 [] [67, 70, 71, 72, 73, 74, 75]) (opsC [] s_gnomonlaw25_UpdateGrows_r12p1 [70] (evOps call base [⟨some 71, (.call (.c (.fn 12 [] [])) [(.t 70)]), none⟩] f H)) := (row_op call it base s_gnomonlaw25_UpdateGrows_r12p1 s_gnomonlaw25_UpdateGrows_r12t2 (kc := [70]) (by kernel_rfl) f H).trans (by rw [row_ops]; rfl)
theorem s_gnomonlaw25_UpdateGrows_r12p2_tale (fr : List V) (H : Heap) : evTale (symAll s_gnomonlaw25_UpdateGrows_r12p2 [] [72]) [] fr H = evTale (some (73, [], [(72, (.t 16))])) [] fr H := tale_row (items := [.tt 16]) (by kernel_rfl) fr H
theorem s_gnomonlaw25_UpdateGrows_r12t2_x (call : CallF) (it : IterF) (base : Nat) (f : List V) (H : Heap) : evC call it base (.region s_gnomonlaw25_UpdateGrows_r12t2 [] [67, 70, 71, 72, 73, 74, 75]) f H = segC call it base s_gnomonlaw25_UpdateGrows_r12t3 [67, 70, 71, 72, 73, 74, 75] H (evTale (symAll s_gnomonlaw25_UpdateGrows_r12p2 [] [72]) [] f H) (origRow call it base s_gnomonlaw25_UpdateGrows_r12t2 [67, 70, 71, 72, 73, 74, 75] f H) := row_seg call it base s_gnomonlaw25_UpdateGrows_r12p2 s_gnomonlaw25_UpdateGrows_r12t3 (by kernel_rfl) f H
theorem s_gnomonlaw25_UpdateGrows_r12t3_x (call : CallF) (it : IterF) (base : Nat) (f : List V) (H : Heap) : evC call it base (.region s_gnomonlaw25_UpdateGrows_r12t3 [] [67, 70, 71, 72, 73, 74, 75]) f H = thenC call it base (.region s_gnomonlaw25_UpdateGrows_r12t4 [] [67, 70, 71, 72, 73, 74, 75]) (opsC [] s_gnomonlaw25_UpdateGrows_r12p3 [72] (evOps call base [⟨some 73, (.call (.c (.fn 12 [] [])) [(.t 72)]), none⟩] f H)) := (row_op call it base s_gnomonlaw25_UpdateGrows_r12p3 s_gnomonlaw25_UpdateGrows_r12t4 (kc := [72]) (by kernel_rfl) f H).trans (by rw [row_ops]; rfl)
theorem s_gnomonlaw25_UpdateGrows_r12p4_tale (fr : List V) (H : Heap) : evTale (symAll s_gnomonlaw25_UpdateGrows_r12p4 [] [74]) [] fr H = evTale (some (75, [], [(74, (.t 17))])) [] fr H := tale_row (items := [.tt 17]) (by kernel_rfl) fr H
theorem s_gnomonlaw25_UpdateGrows_r12t4_x (call : CallF) (it : IterF) (base : Nat) (f : List V) (H : Heap) : evC call it base (.region s_gnomonlaw25_UpdateGrows_r12t4 [] [67, 70, 71, 72, 73, 74, 75]) f H = segC call it base s_gnomonlaw25_UpdateGrows_r12t5 [67, 70, 71, 72, 73, 74, 75] H (evTale (symAll s_gnomonlaw25_UpdateGrows_r12p4 [] [74]) [] f H) (origRow call it base s_gnomonlaw25_UpdateGrows_r12t4 [67, 70, 71, 72, 73, 74, 75] f H) := row_seg call it base s_gnomonlaw25_UpdateGrows_r12p4 s_gnomonlaw25_UpdateGrows_r12t5 (by kernel_rfl) f H
theorem s_gnomonlaw25_UpdateGrows_r12t5_x (call : CallF) (it : IterF) (base : Nat) (f : List V) (H : Heap) : evC call it base (.region s_gnomonlaw25_UpdateGrows_r12t5 [] [67, 70, 71, 72, 73, 74, 75]) f H = thenC call it base (.region s_gnomonlaw25_UpdateGrows_r12t6 [] [67, 70, 71, 72, 73, 74, 75]) (opsC [] s_gnomonlaw25_UpdateGrows_r12p5 [74] (evOps call base [⟨some 75, (.call (.c (.fn 12 [] [])) [(.t 74)]), none⟩] f H)) := (row_op call it base s_gnomonlaw25_UpdateGrows_r12p5 s_gnomonlaw25_UpdateGrows_r12t6 (kc := [74]) (by kernel_rfl) f H).trans (by rw [row_ops]; rfl)
theorem s_gnomonlaw25_UpdateGrows_r12t6_tale (fr : List V) (H : Heap) : evTale (symAll s_gnomonlaw25_UpdateGrows_r12t6 [67, 70, 71, 72, 73, 74, 75] [23, 24, 25]) [67, 70, 71, 72, 73, 74, 75] fr H = evTale (some (26, [], [(23, (.t 71)), (24, (.t 73)), (25, (.t 75))])) [67, 70, 71, 72, 73, 74, 75] fr H := tale_row (items := [.tt 71, .tt 73, .tt 75]) (by kernel_rfl) fr H
theorem s_gnomonlaw25_UpdateGrows_r12t6_x (call : CallF) (it : IterF) (base : Nat) (f : List V) (H : Heap) : evC call it base (.region s_gnomonlaw25_UpdateGrows_r12t6 [] [67, 70, 71, 72, 73, 74, 75]) f H = segL H (evTale (symAll s_gnomonlaw25_UpdateGrows_r12t6 [67, 70, 71, 72, 73, 74, 75] [23, 24, 25]) [67, 70, 71, 72, 73, 74, 75] f H) (origRow call it base s_gnomonlaw25_UpdateGrows_r12t6 [67, 70, 71, 72, 73, 74, 75] f H) := row_last call it base _ f H
def s_gnomonlaw25_UpdateGrows_r13 : List AOper := [
  ⟨some 76, (.move (.t 22)), none⟩,
  ⟨some 77, (.bin .and (.t 76) (.c (.s (.int .i64 1)))), none⟩,
  ⟨some 78, (.bin .neq (.t 77) (.c (.s (.int .i64 0)))), none⟩]
theorem s_gnomonlaw25_UpdateGrows_r13_tale (fr : List V) (H : Heap) : evTale (symAll s_gnomonlaw25_UpdateGrows_r13 [76, 77] [78]) [76, 77] fr H = evTale (some (79, [], [(78, (.op (.bin .neq (.t 0) (.c (.s (.int .i64 0)))) [(.op (.bin .and (.t 0) (.c (.s (.int .i64 1)))) [(.t 22), (.c (.s (.int .i64 1)))]), (.c (.s (.int .i64 0)))]))])) [76, 77] fr H := tale_row (items := [.tt 22, .sub 0 [0] [], .sub 0 [] []]) (by kernel_rfl) fr H
def s_gnomonlaw25_UpdateGrows_r14t1 : List AOper := [⟨some 81, (.call (.c (.fn 13 [] [])) [(.t 79), (.t 80)]), none⟩]
def s_gnomonlaw25_UpdateGrows_r14p0 : List AOper := [⟨some 79, (.move (.t 23)), none⟩, ⟨some 80, (.move (.t 18)), none⟩]
def s_gnomonlaw25_UpdateGrows_r14 : List AOper := s_gnomonlaw25_UpdateGrows_r14p0 ++ s_gnomonlaw25_UpdateGrows_r14t1
theorem s_gnomonlaw25_UpdateGrows_r14p0_tale (fr : List V) (H : Heap) : evTale (symAll s_gnomonlaw25_UpdateGrows_r14p0 [78] [79, 80]) [78] fr H = evTale (some (81, [], [(79, (.t 23)), (80, (.t 18))])) [78] fr H := tale_row (items := [.tt 23, .tt 18]) (by kernel_rfl) fr H
theorem s_gnomonlaw25_UpdateGrows_r14_x (call : CallF) (it : IterF) (base : Nat) (f : List V) (H : Heap) : evC call it base (.region s_gnomonlaw25_UpdateGrows_r14 [] [78, 79, 80, 81]) f H = segC call it base s_gnomonlaw25_UpdateGrows_r14t1 [78, 79, 80, 81] H (evTale (symAll s_gnomonlaw25_UpdateGrows_r14p0 [78] [79, 80]) [78] f H) (origRow call it base s_gnomonlaw25_UpdateGrows_r14 [78, 79, 80, 81] f H) := row_seg call it base s_gnomonlaw25_UpdateGrows_r14p0 s_gnomonlaw25_UpdateGrows_r14t1 (by kernel_rfl) f H
theorem s_gnomonlaw25_UpdateGrows_r14t1_x (call : CallF) (it : IterF) (base : Nat) (f : List V) (H : Heap) : evC call it base (.region s_gnomonlaw25_UpdateGrows_r14t1 [] [78, 79, 80, 81]) f H = opsC [] s_gnomonlaw25_UpdateGrows_r14t1 [78, 79, 80, 81] (evOps call base [⟨some 81, (.call (.c (.fn 13 [] [])) [(.t 79), (.t 80)]), none⟩] f H) := row_ops call it base _ _ _ f H
def s_gnomonlaw25_UpdateGrows_r15 : List AOper := [
  ⟨some 82, (.move (.t 22)), none⟩,
  ⟨some 83, (.bin .and (.t 82) (.c (.s (.int .i64 2)))), none⟩,
  ⟨some 84, (.bin .neq (.t 83) (.c (.s (.int .i64 0)))), none⟩]
theorem s_gnomonlaw25_UpdateGrows_r15_tale (fr : List V) (H : Heap) : evTale (symAll s_gnomonlaw25_UpdateGrows_r15 [78, 82, 83] [84]) [78, 82, 83] fr H = evTale (some (85, [], [(84, (.op (.bin .neq (.t 0) (.c (.s (.int .i64 0)))) [(.op (.bin .and (.t 0) (.c (.s (.int .i64 2)))) [(.t 22), (.c (.s (.int .i64 2)))]), (.c (.s (.int .i64 0)))]))])) [78, 82, 83] fr H := tale_row (items := [.tt 22, .sub 0 [0] [], .sub 0 [] []]) (by kernel_rfl) fr H
def s_gnomonlaw25_UpdateGrows_r16t1 : List AOper := [⟨some 87, (.call (.c (.fn 13 [] [])) [(.t 85), (.t 86)]), none⟩]
def s_gnomonlaw25_UpdateGrows_r16p0 : List AOper := [⟨some 85, (.move (.t 24)), none⟩, ⟨some 86, (.move (.t 18)), none⟩]
def s_gnomonlaw25_UpdateGrows_r16 : List AOper := s_gnomonlaw25_UpdateGrows_r16p0 ++ s_gnomonlaw25_UpdateGrows_r16t1
theorem s_gnomonlaw25_UpdateGrows_r16p0_tale (fr : List V) (H : Heap) : evTale (symAll s_gnomonlaw25_UpdateGrows_r16p0 [84] [85, 86]) [84] fr H = evTale (some (87, [], [(85, (.t 24)), (86, (.t 18))])) [84] fr H := tale_row (items := [.tt 24, .tt 18]) (by kernel_rfl) fr H
theorem s_gnomonlaw25_UpdateGrows_r16_x (call : CallF) (it : IterF) (base : Nat) (f : List V) (H : Heap) : evC call it base (.region s_gnomonlaw25_UpdateGrows_r16 [] [84, 85, 86, 87]) f H = segC call it base s_gnomonlaw25_UpdateGrows_r16t1 [84, 85, 86, 87] H (evTale (symAll s_gnomonlaw25_UpdateGrows_r16p0 [84] [85, 86]) [84] f H) (origRow call it base s_gnomonlaw25_UpdateGrows_r16 [84, 85, 86, 87] f H) := row_seg call it base s_gnomonlaw25_UpdateGrows_r16p0 s_gnomonlaw25_UpdateGrows_r16t1 (by kernel_rfl) f H
theorem s_gnomonlaw25_UpdateGrows_r16t1_x (call : CallF) (it : IterF) (base : Nat) (f : List V) (H : Heap) : evC call it base (.region s_gnomonlaw25_UpdateGrows_r16t1 [] [84, 85, 86, 87]) f H = opsC [] s_gnomonlaw25_UpdateGrows_r16t1 [84, 85, 86, 87] (evOps call base [⟨some 87, (.call (.c (.fn 13 [] [])) [(.t 85), (.t 86)]), none⟩] f H) := row_ops call it base _ _ _ f H
def s_gnomonlaw25_UpdateGrows_r17 : List AOper := [
  ⟨some 88, (.move (.t 22)), none⟩,
  ⟨some 89, (.bin .and (.t 88) (.c (.s (.int .i64 4)))), none⟩,
  ⟨some 90, (.bin .neq (.t 89) (.c (.s (.int .i64 0)))), none⟩]
theorem s_gnomonlaw25_UpdateGrows_r17_tale (fr : List V) (H : Heap) : evTale (symAll s_gnomonlaw25_UpdateGrows_r17 [84, 88, 89] [90]) [84, 88, 89] fr H = evTale (some (91, [], [(90, (.op (.bin .neq (.t 0) (.c (.s (.int .i64 0)))) [(.op (.bin .and (.t 0) (.c (.s (.int .i64 4)))) [(.t 22), (.c (.s (.int .i64 4)))]), (.c (.s (.int .i64 0)))]))])) [84, 88, 89] fr H := tale_row (items := [.tt 22, .sub 0 [0] [], .sub 0 [] []]) (by kernel_rfl) fr H
def s_gnomonlaw25_UpdateGrows_r18t1 : List AOper := [⟨some 93, (.call (.c (.fn 13 [] [])) [(.t 91), (.t 92)]), none⟩]
def s_gnomonlaw25_UpdateGrows_r18p0 : List AOper := [⟨some 91, (.move (.t 25)), none⟩, ⟨some 92, (.move (.t 18)), none⟩]
def s_gnomonlaw25_UpdateGrows_r18 : List AOper := s_gnomonlaw25_UpdateGrows_r18p0 ++ s_gnomonlaw25_UpdateGrows_r18t1
theorem s_gnomonlaw25_UpdateGrows_r18p0_tale (fr : List V) (H : Heap) : evTale (symAll s_gnomonlaw25_UpdateGrows_r18p0 [90] [91, 92]) [90] fr H = evTale (some (93, [], [(91, (.t 25)), (92, (.t 18))])) [90] fr H := tale_row (items := [.tt 25, .tt 18]) (by kernel_rfl) fr H
theorem s_gnomonlaw25_UpdateGrows_r18_x (call : CallF) (it : IterF) (base : Nat) (f : List V) (H : Heap) : evC call it base (.region s_gnomonlaw25_UpdateGrows_r18 [] [90, 91, 92, 93]) f H = segC call it base s_gnomonlaw25_UpdateGrows_r18t1 [90, 91, 92, 93] H (evTale (symAll s_gnomonlaw25_UpdateGrows_r18p0 [90] [91, 92]) [90] f H) (origRow call it base s_gnomonlaw25_UpdateGrows_r18 [90, 91, 92, 93] f H) := row_seg call it base s_gnomonlaw25_UpdateGrows_r18p0 s_gnomonlaw25_UpdateGrows_r18t1 (by kernel_rfl) f H
theorem s_gnomonlaw25_UpdateGrows_r18t1_x (call : CallF) (it : IterF) (base : Nat) (f : List V) (H : Heap) : evC call it base (.region s_gnomonlaw25_UpdateGrows_r18t1 [] [90, 91, 92, 93]) f H = opsC [] s_gnomonlaw25_UpdateGrows_r18t1 [90, 91, 92, 93] (evOps call base [⟨some 93, (.call (.c (.fn 13 [] [])) [(.t 91), (.t 92)]), none⟩] f H) := row_ops call it base _ _ _ f H
def s_gnomonlaw25_UpdateGrows_r19t10 : List AOper := [⟨some 110, (.un .not (.t 109)), some (103, false)⟩, ⟨some 111, (.pick (.t 103) (.c (.s (.bool true))) (.t 110)), none⟩]
def s_gnomonlaw25_UpdateGrows_r19p9 : List AOper := [⟨some 109, (.call (.c (.fn 14 [] [])) [(.t 104), (.t 108)]), some (103, false)⟩]
def s_gnomonlaw25_UpdateGrows_r19t9 : List AOper := s_gnomonlaw25_UpdateGrows_r19p9 ++ s_gnomonlaw25_UpdateGrows_r19t10
def s_gnomonlaw25_UpdateGrows_r19p8 : List AOper := [⟨some 108, (.call (.c (.fn 10 [] [])) [(.t 105), (.t 107)]), some (103, false)⟩]
def s_gnomonlaw25_UpdateGrows_r19t8 : List AOper := s_gnomonlaw25_UpdateGrows_r19p8 ++ s_gnomonlaw25_UpdateGrows_r19t9
def s_gnomonlaw25_UpdateGrows_r19p7 : List AOper := [⟨some 107, (.call (.c (.fn 11 [] [])) [(.t 106)]), some (103, false)⟩]
def s_gnomonlaw25_UpdateGrows_r19t7 : List AOper := s_gnomonlaw25_UpdateGrows_r19p7 ++ s_gnomonlaw25_UpdateGrows_r19t8
def s_gnomonlaw25_UpdateGrows_r19p6 : List AOper := [⟨some 106, (.move (.t 5)), some (103, false)⟩]
def s_gnomonlaw25_UpdateGrows_r19t6 : List AOper := s_gnomonlaw25_UpdateGrows_r19p6 ++ s_gnomonlaw25_UpdateGrows_r19t7
def s_gnomonlaw25_UpdateGrows_r19p5 : List AOper := [⟨some 105, (.move (.t 23)), some (103, false)⟩]
def s_gnomonlaw25_UpdateGrows_r19t5 : List AOper := s_gnomonlaw25_UpdateGrows_r19p5 ++ s_gnomonlaw25_UpdateGrows_r19t6
def s_gnomonlaw25_UpdateGrows_r19p4 : List AOper := [⟨some 104, (.move (.t 20)), some (103, false)⟩]
def s_gnomonlaw25_UpdateGrows_r19t4 : List AOper := s_gnomonlaw25_UpdateGrows_r19p4 ++ s_gnomonlaw25_UpdateGrows_r19t5
def s_gnomonlaw25_UpdateGrows_r19p3 : List AOper := [⟨some 102, (.un .not (.t 101)), none⟩, ⟨some 103, (.move (.t 102)), none⟩]
def s_gnomonlaw25_UpdateGrows_r19t3 : List AOper := s_gnomonlaw25_UpdateGrows_r19p3 ++ s_gnomonlaw25_UpdateGrows_r19t4
def s_gnomonlaw25_UpdateGrows_r19p2 : List AOper := [⟨some 101, (.call (.c (.fn 14 [] [])) [(.t 94), (.t 100)]), none⟩]
def s_gnomonlaw25_UpdateGrows_r19t2 : List AOper := s_gnomonlaw25_UpdateGrows_r19p2 ++ s_gnomonlaw25_UpdateGrows_r19t3
def s_gnomonlaw25_UpdateGrows_r19p1 : List AOper := [⟨some 100, (.call (.c (.fn 9 [] [])) [(.t 95), (.t 96), (.t 97), (.t 98), (.t 99)]), none⟩]
def s_gnomonlaw25_UpdateGrows_r19t1 : List AOper := s_gnomonlaw25_UpdateGrows_r19p1 ++ s_gnomonlaw25_UpdateGrows_r19t2
def s_gnomonlaw25_UpdateGrows_r19p0 : List AOper := [⟨some 94, (.move (.t 19)), none⟩, ⟨some 95, (.move (.t 23)), none⟩, ⟨some 96, (.move (.t 24)), none⟩, ⟨some 97, (.move (.t 25)), none⟩, ⟨some 98, (.move (.t 3)), none⟩, ⟨some 99, (.move (.t 4)), none⟩]
def s_gnomonlaw25_UpdateGrows_r19 : List AOper := s_gnomonlaw25_UpdateGrows_r19p0 ++ s_gnomonlaw25_UpdateGrows_r19t1
theorem s_gnomonlaw25_UpdateGrows_r19p0_tale (fr : List V) (H : Heap) : evTale (symAll s_gnomonlaw25_UpdateGrows_r19p0 [24, 25, 90] [94, 95, 96, 97, 98, 99]) [24, 25, 90] fr H = evTale (some (100, [], [(94, (.t 19)), (95, (.t 23)), (96, (.t 24)), (97, (.t 25)), (98, (.t 3)), (99, (.t 4))])) [24, 25, 90] fr H := tale_row (items := [.tt 19, .tt 23, .tt 24, .tt 25, .tt 3, .tt 4]) (by kernel_rfl) fr H
theorem s_gnomonlaw25_UpdateGrows_r19_x (call : CallF) (it : IterF) (base : Nat) (f : List V) (H : Heap) : evC call it base (.region s_gnomonlaw25_UpdateGrows_r19 [] [23, 24, 25, 90, 94, 95, 96, 97, 98, 99, 100, 101, 102, 103, 104, 105, 106, 107, 108, 109, 110]) f H = segC call it base s_gnomonlaw25_UpdateGrows_r19t1 [23, 24, 25, 90, 94, 95, 96, 97, 98, 99, 100, 101, 102, 103, 104, 105, 106, 107, 108, 109, 110] H (evTale (symAll s_gnomonlaw25_UpdateGrows_r19p0 [24, 25, 90] [94, 95, 96, 97, 98, 99]) [24, 25, 90] f H) (origRow call it base s_gnomonlaw25_UpdateGrows_r19 [23, 24, 25, 90, 94, 95, 96, 97, 98, 99, 100, 101, 102, 103, 104, 105, 106, 107, 108, 109, 110] f H) := row_seg call it base s_gnomonlaw25_UpdateGrows_r19p0 s_gnomonlaw25_UpdateGrows_r19t1 (by kernel_rfl) f H
theorem s_gnomonlaw25_UpdateGrows_r19t1_x (call : CallF) (it : IterF) (base : Nat) (f : List V) (H : Heap) : evC call it base (.region s_gnomonlaw25_UpdateGrows_r19t1 [] [23, 24, 25, 90, 94, 95, 96, 97, 98, 99, 100, 101, 102, 103, 104, 105, 106, 107, 108, 109, 110]) f H = thenC call it base (.region s_gnomonlaw25_UpdateGrows_r19t2 [] [23, 24, 25, 90, 94, 95, 96, 97, 98, 99, 100, 101, 102, 103, 104, 105, 106, 107, 108, 109, 110]) (opsC [] s_gnomonlaw25_UpdateGrows_r19p1 [95, 96, 97, 98, 99] (evOps call base [⟨some 100, (.call (.c (.fn 9 [] [])) [(.t 95), (.t 96), (.t 97), (.t 98), (.t 99)]), none⟩] f H)) := (row_op call it base s_gnomonlaw25_UpdateGrows_r19p1 s_gnomonlaw25_UpdateGrows_r19t2 (kc := [95, 96, 97, 98, 99]) (by kernel_rfl) f H).trans (by rw [row_ops]; rfl)
theorem s_gnomonlaw25_UpdateGrows_r19t2_x (call : CallF) (it : IterF) (base : Nat) (f : List V) (H : Heap) : evC call it base (.region s_gnomonlaw25_UpdateGrows_r19t2 [] [23, 24, 25, 90, 94, 95, 96, 97, 98, 99, 100, 101, 102, 103, 104, 105, 106, 107, 108, 109, 110]) f H = thenC call it base (.region s_gnomonlaw25_UpdateGrows_r19t3 [] [23, 24, 25, 90, 94, 95, 96, 97, 98, 99, 100, 101, 102, 103, 104, 105, 106, 107, 108, 109, 110]) (opsC [] s_gnomonlaw25_UpdateGrows_r19p2 [94, 100] (evOps call base [⟨some 101, (.call (.c (.fn 14 [] [])) [(.t 94), (.t 100)]), none⟩] f H)) := (row_op call it base s_gnomonlaw25_UpdateGrows_r19p2 s_gnomonlaw25_UpdateGrows_r19t3 (kc := [94, 100]) (by kernel_rfl) f H).trans (by rw [row_ops]; rfl)
theorem s_gnomonlaw25_UpdateGrows_r19p3_tale (fr : List V) (H : Heap) : evTale (symAll s_gnomonlaw25_UpdateGrows_r19p3 [101, 102] [103]) [101, 102] fr H = evTale (some (104, [], [(103, (.op (.un .not (.t 0)) [(.t 101)]))])) [101, 102] fr H := tale_row (items := [.sub 0 [] [], .sub 0 [] []]) (by kernel_rfl) fr H
theorem s_gnomonlaw25_UpdateGrows_r19t3_x (call : CallF) (it : IterF) (base : Nat) (f : List V) (H : Heap) : evC call it base (.region s_gnomonlaw25_UpdateGrows_r19t3 [] [23, 24, 25, 90, 94, 95, 96, 97, 98, 99, 100, 101, 102, 103, 104, 105, 106, 107, 108, 109, 110]) f H = segC call it base s_gnomonlaw25_UpdateGrows_r19t4 [23, 24, 25, 90, 94, 95, 96, 97, 98, 99, 100, 101, 102, 103, 104, 105, 106, 107, 108, 109, 110] H (evTale (symAll s_gnomonlaw25_UpdateGrows_r19p3 [101, 102] [103]) [101, 102] f H) (origRow call it base s_gnomonlaw25_UpdateGrows_r19t3 [23, 24, 25, 90, 94, 95, 96, 97, 98, 99, 100, 101, 102, 103, 104, 105, 106, 107, 108, 109, 110] f H) := row_seg call it base s_gnomonlaw25_UpdateGrows_r19p3 s_gnomonlaw25_UpdateGrows_r19t4 (by kernel_rfl) f H
theorem s_gnomonlaw25_UpdateGrows_r19t4_x (call : CallF) (it : IterF) (base : Nat) (f : List V) (H : Heap) : evC call it base (.region s_gnomonlaw25_UpdateGrows_r19t4 [] [23, 24, 25, 90, 94, 95, 96, 97, 98, 99, 100, 101, 102, 103, 104, 105, 106, 107, 108, 109, 110]) f H = thenC call it base (.region s_gnomonlaw25_UpdateGrows_r19t5 [] [23, 24, 25, 90, 94, 95, 96, 97, 98, 99, 100, 101, 102, 103, 104, 105, 106, 107, 108, 109, 110]) (opsC [] s_gnomonlaw25_UpdateGrows_r19p4 [] (evOps call base [⟨some 104, (.move (.t 20)), some (103, false)⟩] f H)) := (row_op call it base s_gnomonlaw25_UpdateGrows_r19p4 s_gnomonlaw25_UpdateGrows_r19t5 (kc := []) (by kernel_rfl) f H).trans (by rw [row_ops]; rfl)
theorem s_gnomonlaw25_UpdateGrows_r19t5_x (call : CallF) (it : IterF) (base : Nat) (f : List V) (H : Heap) : evC call it base (.region s_gnomonlaw25_UpdateGrows_r19t5 [] [23, 24, 25, 90, 94, 95, 96, 97, 98, 99, 100, 101, 102, 103, 104, 105, 106, 107, 108, 109, 110]) f H = thenC call it base (.region s_gnomonlaw25_UpdateGrows_r19t6 [] [23, 24, 25, 90, 94, 95, 96, 97, 98, 99, 100, 101, 102, 103, 104, 105, 106, 107, 108, 109, 110]) (opsC [] s_gnomonlaw25_UpdateGrows_r19p5 [23] (evOps call base [⟨some 105, (.move (.t 23)), some (103, false)⟩] f H)) := (row_op call it base s_gnomonlaw25_UpdateGrows_r19p5 s_gnomonlaw25_UpdateGrows_r19t6 (kc := [23]) (by kernel_rfl) f H).trans (by rw [row_ops]; rfl)
theorem s_gnomonlaw25_UpdateGrows_r19t6_x (call : CallF) (it : IterF) (base : Nat) (f : List V) (H : Heap) : evC call it base (.region s_gnomonlaw25_UpdateGrows_r19t6 [] [23, 24, 25, 90, 94, 95, 96, 97, 98, 99, 100, 101, 102, 103, 104, 105, 106, 107, 108, 109, 110]) f H = thenC call it base (.region s_gnomonlaw25_UpdateGrows_r19t7 [] [23, 24, 25, 90, 94, 95, 96, 97, 98, 99, 100, 101, 102, 103, 104, 105, 106, 107, 108, 109, 110]) (opsC [] s_gnomonlaw25_UpdateGrows_r19p6 [] (evOps call base [⟨some 106, (.move (.t 5)), some (103, false)⟩] f H)) := (row_op call it base s_gnomonlaw25_UpdateGrows_r19p6 s_gnomonlaw25_UpdateGrows_r19t7 (kc := []) (by kernel_rfl) f H).trans (by rw [row_ops]; rfl)
theorem s_gnomonlaw25_UpdateGrows_r19t7_x (call : CallF) (it : IterF) (base : Nat) (f : List V) (H : Heap) : evC call it base (.region s_gnomonlaw25_UpdateGrows_r19t7 [] [23, 24, 25, 90, 94, 95, 96, 97, 98, 99, 100, 101, 102, 103, 104, 105, 106, 107, 108, 109, 110]) f H = thenC call it base (.region s_gnomonlaw25_UpdateGrows_r19t8 [] [23, 24, 25, 90, 94, 95, 96, 97, 98, 99, 100, 101, 102, 103, 104, 105, 106, 107, 108, 109, 110]) (opsC [] s_gnomonlaw25_UpdateGrows_r19p7 [106] (evOps call base [⟨some 107, (.call (.c (.fn 11 [] [])) [(.t 106)]), some (103, false)⟩] f H)) := (row_op call it base s_gnomonlaw25_UpdateGrows_r19p7 s_gnomonlaw25_UpdateGrows_r19t8 (kc := [106]) (by kernel_rfl) f H).trans (by rw [row_ops]; rfl)
theorem s_gnomonlaw25_UpdateGrows_r19t8_x (call : CallF) (it : IterF) (base : Nat) (f : List V) (H : Heap) : evC call it base (.region s_gnomonlaw25_UpdateGrows_r19t8 [] [23, 24, 25, 90, 94, 95, 96, 97, 98, 99, 100, 101, 102, 103, 104, 105, 106, 107, 108, 109, 110]) f H = thenC call it base (.region s_gnomonlaw25_UpdateGrows_r19t9 [] [23, 24, 25, 90, 94, 95, 96, 97, 98, 99, 100, 101, 102, 103, 104, 105, 106, 107, 108, 109, 110]) (opsC [] s_gnomonlaw25_UpdateGrows_r19p8 [105, 107] (evOps call base [⟨some 108, (.call (.c (.fn 10 [] [])) [(.t 105), (.t 107)]), some (103, false)⟩] f H)) := (row_op call it base s_gnomonlaw25_UpdateGrows_r19p8 s_gnomonlaw25_UpdateGrows_r19t9 (kc := [105, 107]) (by kernel_rfl) f H).trans (by rw [row_ops]; rfl)
theorem s_gnomonlaw25_UpdateGrows_r19t9_x (call : CallF) (it : IterF) (base : Nat) (f : List V) (H : Heap) : evC call it base (.region s_gnomonlaw25_UpdateGrows_r19t9 [] [23, 24, 25, 90, 94, 95, 96, 97, 98, 99, 100, 101, 102, 103, 104, 105, 106, 107, 108, 109, 110]) f H = thenC call it base (.region s_gnomonlaw25_UpdateGrows_r19t10 [] [23, 24, 25, 90, 94, 95, 96, 97, 98, 99, 100, 101, 102, 103, 104, 105, 106, 107, 108, 109, 110]) (opsC [] s_gnomonlaw25_UpdateGrows_r19p9 [104, 108] (evOps call base [⟨some 109, (.call (.c (.fn 14 [] [])) [(.t 104), (.t 108)]), some (103, false)⟩] f H)) := (row_op call it base s_gnomonlaw25_UpdateGrows_r19p9 s_gnomonlaw25_UpdateGrows_r19t10 (kc := [104, 108]) (by kernel_rfl) f H).trans (by rw [row_ops]; rfl)
theorem s_gnomonlaw25_UpdateGrows_r19t10_tale (fr : List V) (H : Heap) : evTale (symAll s_gnomonlaw25_UpdateGrows_r19t10 [23, 24, 25, 90, 94, 95, 96, 97, 98, 99, 100, 101, 102, 103, 104, 105, 106, 107, 108, 109, 110] [111]) [23, 24, 25, 90, 94, 95, 96, 97, 98, 99, 100, 101, 102, 103, 104, 105, 106, 107, 108, 109, 110] fr H = evTale (some (112, [], [(111, (.pick (.t 103) (.c (.s (.bool true))) (.op (.un .not (.t 0)) [(.t 109)])))])) [23, 24, 25, 90, 94, 95, 96, 97, 98, 99, 100, 101, 102, 103, 104, 105, 106, 107, 108, 109, 110] fr H := tale_row (items := [.sub 0 [2] [103], .sub 0 [] []]) (by kernel_rfl) fr H
theorem s_gnomonlaw25_UpdateGrows_r19t10_x (call : CallF) (it : IterF) (base : Nat) (f : List V) (H : Heap) : evC call it base (.region s_gnomonlaw25_UpdateGrows_r19t10 [] [23, 24, 25, 90, 94, 95, 96, 97, 98, 99, 100, 101, 102, 103, 104, 105, 106, 107, 108, 109, 110]) f H = segL H (evTale (symAll s_gnomonlaw25_UpdateGrows_r19t10 [23, 24, 25, 90, 94, 95, 96, 97, 98, 99, 100, 101, 102, 103, 104, 105, 106, 107, 108, 109, 110] [111]) [23, 24, 25, 90, 94, 95, 96, 97, 98, 99, 100, 101, 102, 103, 104, 105, 106, 107, 108, 109, 110] f H) (origRow call it base s_gnomonlaw25_UpdateGrows_r19t10 [23, 24, 25, 90, 94, 95, 96, 97, 98, 99, 100, 101, 102, 103, 104, 105, 106, 107, 108, 109, 110] f H) := row_last call it base _ f H
def s_gnomonlaw25_UpdateGrows_r20 : List AOper := [
  ⟨some 14, (.move (.c (.s (.bool false)))), none⟩]
theorem s_gnomonlaw25_UpdateGrows_r20_tale (fr : List V) (H : Heap) : evTale (symAll s_gnomonlaw25_UpdateGrows_r20 [3, 4, 5, 6, 15, 16, 17, 18, 19, 20, 21, 22, 111] [14]) [3, 4, 5, 6, 15, 16, 17, 18, 19, 20, 21, 22, 111] fr H = evTale (some (15, [], [(14, (.c (.s (.bool false))))])) [3, 4, 5, 6, 15, 16, 17, 18, 19, 20, 21, 22, 111] fr H := tale_row (items := [.cc (.s (.bool false))]) (by kernel_rfl) fr H
def s_gnomonlaw25_UpdateGrows_r21 : List AOper := [
  ⟨some 68, (.move (.t 22)), none⟩,
  ⟨some 69, (.bin .add (.t 68) (.c (.s (.int .i64 1)))), none⟩,
  ⟨some 22, (.move (.t 69)), none⟩]
theorem s_gnomonlaw25_UpdateGrows_r21_tale (fr : List V) (H : Heap) : evTale (symAll s_gnomonlaw25_UpdateGrows_r21 [68, 69, 111] [22]) [68, 69, 111] fr H = evTale (some (70, [], [(22, (.op (.bin .add (.t 0) (.c (.s (.int .i64 1)))) [(.t 22), (.c (.s (.int .i64 1)))]))])) [68, 69, 111] fr H := tale_row (items := [.tt 22, .sub 0 [] [], .sub 0 [] []]) (by kernel_rfl) fr H
def s_gnomonlaw25_UpdateGrows_l0_b : ACode :=
  (.seq (.seq (.regionE s_gnomonlaw25_UpdateGrows_r11 [66] [67])
  (.cond (.t 67)
  .skip
  (.exit 0)))
  (.seq (.block 1
  (.seq (.region s_gnomonlaw25_UpdateGrows_r12 [] [67, 70, 71, 72, 73, 74, 75])
  (.seq (.seq (.regionE s_gnomonlaw25_UpdateGrows_r13 [76, 77] [78])
  (.cond (.t 78)
  (.region s_gnomonlaw25_UpdateGrows_r14 [] [78, 79, 80, 81])
  .skip))
  (.seq (.seq (.regionE s_gnomonlaw25_UpdateGrows_r15 [78, 82, 83] [84])
  (.cond (.t 84)
  (.region s_gnomonlaw25_UpdateGrows_r16 [] [84, 85, 86, 87])
  .skip))
  (.seq (.seq (.regionE s_gnomonlaw25_UpdateGrows_r17 [84, 88, 89] [90])
  (.cond (.t 90)
  (.region s_gnomonlaw25_UpdateGrows_r18 [] [90, 91, 92, 93])
  .skip))
  (.seq (.region s_gnomonlaw25_UpdateGrows_r19 [] [23, 24, 25, 90, 94, 95, 96, 97, 98, 99, 100, 101, 102, 103, 104, 105, 106, 107, 108, 109, 110])
  (.cond (.t 111)
  (.seq (.regionE s_gnomonlaw25_UpdateGrows_r20 [3, 4, 5, 6, 15, 16, 17, 18, 19, 20, 21, 22, 111] [14])
  .ret)
  .skip)))))))
  (.regionE s_gnomonlaw25_UpdateGrows_r21 [68, 69, 111] [22])))
def s_gnomonlaw25_UpdateGrows_l0 : ACode := s_gnomonlaw25_UpdateGrows_l0_b
theorem s_gnomonlaw25_UpdateGrows_l0_ev (call : CallF) (it : IterF) (base : Nat) (fr : List V) (H : Heap) : evC call it base s_gnomonlaw25_UpdateGrows_l0 fr H = evC call it base s_gnomonlaw25_UpdateGrows_l0_b fr H := rfl
def s_gnomonlaw25_UpdateGrows_r22t6 : List AOper := [⟨some 26, (.move (.t 121)), none⟩]
def s_gnomonlaw25_UpdateGrows_r22p5 : List AOper := [⟨some 121, (.call (.c (.fn 11 [] [])) [(.t 120)]), none⟩]
def s_gnomonlaw25_UpdateGrows_r22t5 : List AOper := s_gnomonlaw25_UpdateGrows_r22p5 ++ s_gnomonlaw25_UpdateGrows_r22t6
def s_gnomonlaw25_UpdateGrows_r22p4 : List AOper := [⟨some 120, (.append 2 32 (.t 113) (.t 119)), none⟩]
def s_gnomonlaw25_UpdateGrows_r22t4 : List AOper := s_gnomonlaw25_UpdateGrows_r22p4 ++ s_gnomonlaw25_UpdateGrows_r22t5
def s_gnomonlaw25_UpdateGrows_r22p3 : List AOper := [⟨some 119, (.buildSl 2 1 [(.s (.bool false)), (.s (.slice none 0 0))] [(0, (.t 118))]), none⟩]
def s_gnomonlaw25_UpdateGrows_r22t3 : List AOper := s_gnomonlaw25_UpdateGrows_r22p3 ++ s_gnomonlaw25_UpdateGrows_r22t4
def s_gnomonlaw25_UpdateGrows_r22p2 : List AOper := [⟨some 114, (.move (.t 3)), none⟩, ⟨some 115, (.bin .rem (.t 114) (.c (.s (.int .i64 2)))), none⟩, ⟨some 116, (.bin .eql (.t 115) (.c (.s (.int .i64 0)))), none⟩, ⟨some 117, (.move (.t 6)), none⟩, ⟨some 118, (.build [(.s (.bool false)), (.s (.slice none 0 0))] [(0, 1), (1, 1)] [(0, (.t 116)), (1, (.t 117))]), none⟩]
def s_gnomonlaw25_UpdateGrows_r22t2 : List AOper := s_gnomonlaw25_UpdateGrows_r22p2 ++ s_gnomonlaw25_UpdateGrows_r22t3
def s_gnomonlaw25_UpdateGrows_r22p1 : List AOper := [⟨some 113, (.append 2 32 (.c (.s (.slice none 0 0))) (.t 112)), none⟩]
def s_gnomonlaw25_UpdateGrows_r22t1 : List AOper := s_gnomonlaw25_UpdateGrows_r22p1 ++ s_gnomonlaw25_UpdateGrows_r22t2
def s_gnomonlaw25_UpdateGrows_r22p0 : List AOper := [⟨some 112, (.move (.t 5)), none⟩]
def s_gnomonlaw25_UpdateGrows_r22 : List AOper := s_gnomonlaw25_UpdateGrows_r22p0 ++ s_gnomonlaw25_UpdateGrows_r22t1
theorem s_gnomonlaw25_UpdateGrows_r22p0_tale (fr : List V) (H : Heap) : evTale (symAll s_gnomonlaw25_UpdateGrows_r22p0 [4, 16, 17, 19, 22, 67] [112]) [4, 16, 17, 19, 22, 67] fr H = evTale (some (113, [], [(112, (.t 5))])) [4, 16, 17, 19, 22, 67] fr H := tale_row (items := [.tt 5]) (by kernel_rfl) fr H
theorem s_gnomonlaw25_UpdateGrows_r22_x (call : CallF) (it : IterF) (base : Nat) (f : List V) (H : Heap) : evC call it base (.region s_gnomonlaw25_UpdateGrows_r22 [] [3, 4, 6, 16, 17, 19, 22, 67, 112, 113, 114, 115, 116, 117, 118, 119, 120, 121]) f H = segC call it base s_gnomonlaw25_UpdateGrows_r22t1 [3, 4, 6, 16, 17, 19, 22, 67, 112, 113, 114, 115, 116, 117, 118, 119, 120, 121] H (evTale (symAll s_gnomonlaw25_UpdateGrows_r22p0 [4, 16, 17, 19, 22, 67] [112]) [4, 16, 17, 19, 22, 67] f H) (origRow call it base s_gnomonlaw25_UpdateGrows_r22 [3, 4, 6, 16, 17, 19, 22, 67, 112, 113, 114, 115, 116, 117, 118, 119, 120, 121] f H) := row_seg call it base s_gnomonlaw25_UpdateGrows_r22p0 s_gnomonlaw25_UpdateGrows_r22t1 (by kernel_rfl) f H
theorem s_gnomonlaw25_UpdateGrows_r22t1_x (call : CallF) (it : IterF) (base : Nat) (f : List V) (H : Heap) : evC call it base (.region s_gnomonlaw25_UpdateGrows_r22t1 [] [3, 4, 6, 16, 17, 19, 22, 67, 112, 113, 114, 115, 116, 117, 118, 119, 120, 121]) f H = thenC call it base (.region s_gnomonlaw25_UpdateGrows_r22t2 [] [3, 4, 6, 16, 17, 19, 22, 67, 112, 113, 114, 115, 116, 117, 118, 119, 120, 121]) (opsC [] s_gnomonlaw25_UpdateGrows_r22p1 [112] (evOps call base [⟨some 113, (.append 2 32 (.c (.s (.slice none 0 0))) (.t 112)), none⟩] f H)) := (row_op call it base s_gnomonlaw25_UpdateGrows_r22p1 s_gnomonlaw25_UpdateGrows_r22t2 (kc := [112]) (by kernel_rfl) f H).trans (by rw [row_ops]; rfl)
theorem s_gnomonlaw25_UpdateGrows_r22p2_tale (fr : List V) (H : Heap) : evTale (symAll s_gnomonlaw25_UpdateGrows_r22p2 [3, 6, 114, 115, 116, 117] [118]) [3, 6, 114, 115, 116, 117] fr H = evTale (some (119, [], [(118, (.op (.build [(.s (.bool false)), (.s (.slice none 0 0))] [(0, 1), (1, 1)] [(0, (.t 0)), (1, (.t 1))]) [(.op (.bin .eql (.t 0) (.c (.s (.int .i64 0)))) [(.op (.bin .rem (.t 0) (.c (.s (.int .i64 2)))) [(.t 3), (.c (.s (.int .i64 2)))]), (.c (.s (.int .i64 0)))]), (.t 6)]))])) [3, 6, 114, 115, 116, 117] fr H := tale_row (items := [.tt 3, .sub 0 [0, 0] [], .sub 0 [0] [], .tt 6, .sub 0 [] []]) (by kernel_rfl) fr H
theorem s_gnomonlaw25_UpdateGrows_r22t2_x (call : CallF) (it : IterF) (base : Nat) (f : List V) (H : Heap) : evC call it base (.region s_gnomonlaw25_UpdateGrows_r22t2 [] [3, 4, 6, 16, 17, 19, 22, 67, 112, 113, 114, 115, 116, 117, 118, 119, 120, 121]) f H = segC call it base s_gnomonlaw25_UpdateGrows_r22t3 [3, 4, 6, 16, 17, 19, 22, 67, 112, 113, 114, 115, 116, 117, 118, 119, 120, 121] H (evTale (symAll s_gnomonlaw25_UpdateGrows_r22p2 [3, 6, 114, 115, 116, 117] [118]) [3, 6, 114, 115, 116, 117] f H) (origRow call it base s_gnomonlaw25_UpdateGrows_r22t2 [3, 4, 6, 16, 17, 19, 22, 67, 112, 113, 114, 115, 116, 117, 118, 119, 120, 121] f H) := row_seg call it base s_gnomonlaw25_UpdateGrows_r22p2 s_gnomonlaw25_UpdateGrows_r22t3 (by kernel_rfl) f H
theorem s_gnomonlaw25_UpdateGrows_r22t3_x (call : CallF) (it : IterF) (base : Nat) (f : List V) (H : Heap) : evC call it base (.region s_gnomonlaw25_UpdateGrows_r22t3 [] [3, 4, 6, 16, 17, 19, 22, 67, 112, 113, 114, 115, 116, 117, 118, 119, 120, 121]) f H = thenC call it base (.region s_gnomonlaw25_UpdateGrows_r22t4 [] [3, 4, 6, 16, 17, 19, 22, 67, 112, 113, 114, 115, 116, 117, 118, 119, 120, 121]) (opsC [] s_gnomonlaw25_UpdateGrows_r22p3 [118] (evOps call base [⟨some 119, (.buildSl 2 1 [(.s (.bool false)), (.s (.slice none 0 0))] [(0, (.t 118))]), none⟩] f H)) := (row_op call it base s_gnomonlaw25_UpdateGrows_r22p3 s_gnomonlaw25_UpdateGrows_r22t4 (kc := [118]) (by kernel_rfl) f H).trans (by rw [row_ops]; rfl)
theorem s_gnomonlaw25_UpdateGrows_r22t4_x (call : CallF) (it : IterF) (base : Nat) (f : List V) (H : Heap) : evC call it base (.region s_gnomonlaw25_UpdateGrows_r22t4 [] [3, 4, 6, 16, 17, 19, 22, 67, 112, 113, 114, 115, 116, 117, 118, 119, 120, 121]) f H = thenC call it base (.region s_gnomonlaw25_UpdateGrows_r22t5 [] [3, 4, 6, 16, 17, 19, 22, 67, 112, 113, 114, 115, 116, 117, 118, 119, 120, 121]) (opsC [] s_gnomonlaw25_UpdateGrows_r22p4 [113, 119] (evOps call base [⟨some 120, (.append 2 32 (.t 113) (.t 119)), none⟩] f H)) := (row_op call it base s_gnomonlaw25_UpdateGrows_r22p4 s_gnomonlaw25_UpdateGrows_r22t5 (kc := [113, 119]) (by kernel_rfl) f H).trans (by rw [row_ops]; rfl)
theorem s_gnomonlaw25_UpdateGrows_r22t5_x (call : CallF) (it : IterF) (base : Nat) (f : List V) (H : Heap) : evC call it base (.region s_gnomonlaw25_UpdateGrows_r22t5 [] [3, 4, 6, 16, 17, 19, 22, 67, 112, 113, 114, 115, 116, 117, 118, 119, 120, 121]) f H = thenC call it base (.region s_gnomonlaw25_UpdateGrows_r22t6 [] [3, 4, 6, 16, 17, 19, 22, 67, 112, 113, 114, 115, 116, 117, 118, 119, 120, 121]) (opsC [] s_gnomonlaw25_UpdateGrows_r22p5 [120] (evOps call base [⟨some 121, (.call (.c (.fn 11 [] [])) [(.t 120)]), none⟩] f H)) := (row_op call it base s_gnomonlaw25_UpdateGrows_r22p5 s_gnomonlaw25_UpdateGrows_r22t6 (kc := [120]) (by kernel_rfl) f H).trans (by rw [row_ops]; rfl)
theorem s_gnomonlaw25_UpdateGrows_r22t6_tale (fr : List V) (H : Heap) : evTale (symAll s_gnomonlaw25_UpdateGrows_r22t6 [3, 4, 6, 16, 17, 19, 22, 67, 112, 113, 114, 115, 116, 117, 118, 119, 120, 121] [26]) [3, 4, 6, 16, 17, 19, 22, 67, 112, 113, 114, 115, 116, 117, 118, 119, 120, 121] fr H = evTale (some (27, [], [(26, (.t 121))])) [3, 4, 6, 16, 17, 19, 22, 67, 112, 113, 114, 115, 116, 117, 118, 119, 120, 121] fr H := tale_row (items := [.tt 121]) (by kernel_rfl) fr H
theorem s_gnomonlaw25_UpdateGrows_r22t6_x (call : CallF) (it : IterF) (base : Nat) (f : List V) (H : Heap) : evC call it base (.region s_gnomonlaw25_UpdateGrows_r22t6 [] [3, 4, 6, 16, 17, 19, 22, 67, 112, 113, 114, 115, 116, 117, 118, 119, 120, 121]) f H = segL H (evTale (symAll s_gnomonlaw25_UpdateGrows_r22t6 [3, 4, 6, 16, 17, 19, 22, 67, 112, 113, 114, 115, 116, 117, 118, 119, 120, 121] [26]) [3, 4, 6, 16, 17, 19, 22, 67, 112, 113, 114, 115, 116, 117, 118, 119, 120, 121] f H) (origRow call it base s_gnomonlaw25_UpdateGrows_r22t6 [3, 4, 6, 16, 17, 19, 22, 67, 112, 113, 114, 115, 116, 117, 118, 119, 120, 121] f H) := row_last call it base _ f H
def s_gnomonlaw25_UpdateGrows_r23 : List AOper := [
  ⟨some 27, (.move (.c (.s (.int .i64 0)))), none⟩]
theorem s_gnomonlaw25_UpdateGrows_r23_tale (fr : List V) (H : Heap) : evTale (symAll s_gnomonlaw25_UpdateGrows_r23 [] [27]) [] fr H = evTale (some (28, [], [(27, (.c (.s (.int .i64 0))))])) [] fr H := tale_row (items := [.cc (.s (.int .i64 0))]) (by kernel_rfl) fr H
def s_gnomonlaw25_UpdateGrows_r24 : List AOper := [
  ⟨some 122, (.move (.t 27)), none⟩,
  ⟨some 123, (.move (.t 5)), none⟩,
  ⟨some 124, (.lenS .s (.t 123)), none⟩,
  ⟨some 125, (.bin .lss (.t 122) (.t 124)), none⟩]
theorem s_gnomonlaw25_UpdateGrows_r24_tale (fr : List V) (H : Heap) : evTale (symAll s_gnomonlaw25_UpdateGrows_r24 [122, 123, 124] [125]) [122, 123, 124] fr H = evTale (some (126, [], [(125, (.op (.bin .lss (.t 0) (.t 1)) [(.t 27), (.op (.lenS .s (.t 0)) [(.t 5)])]))])) [122, 123, 124] fr H := tale_row (items := [.tt 27, .tt 5, .sub 0 [1] [], .sub 0 [] []]) (by kernel_rfl) fr H
def s_gnomonlaw25_UpdateGrows_r25t1 : List AOper := [⟨some 134, (.call (.c (.fn 13 [] [])) [(.t 132), (.t 133)]), none⟩]
def s_gnomonlaw25_UpdateGrows_r25p0 : List AOper := [⟨some 128, (.move (.t 26)), none⟩, ⟨some 129, (.move (.t 27)), none⟩, ⟨some 130, (.indexAddr 2 (.t 128) (.t 129)), none⟩, ⟨some 131, (.fieldAddr 1 (.t 130)), none⟩, ⟨some 132, (.load false 1 (.t 131)), none⟩, ⟨some 133, (.move (.t 18)), none⟩]
def s_gnomonlaw25_UpdateGrows_r25 : List AOper := s_gnomonlaw25_UpdateGrows_r25p0 ++ s_gnomonlaw25_UpdateGrows_r25t1
theorem s_gnomonlaw25_UpdateGrows_r25p0_tale (fr : List V) (H : Heap) : evTale (symAll s_gnomonlaw25_UpdateGrows_r25p0 [125, 128, 129, 130, 131] [132, 133]) [125, 128, 129, 130, 131] fr H = evTale (some (134, [], [(132, (.op (.load false 1 (.t 0)) [(.op (.fieldAddr 1 (.t 0)) [(.op (.indexAddr 2 (.t 0) (.t 1)) [(.t 26), (.t 27)])])])), (133, (.t 18))])) [125, 128, 129, 130, 131] fr H := tale_row (items := [.tt 26, .tt 27, .sub 0 [0, 0] [], .sub 0 [0] [], .sub 0 [] [], .tt 18]) (by kernel_rfl) fr H
theorem s_gnomonlaw25_UpdateGrows_r25_x (call : CallF) (it : IterF) (base : Nat) (f : List V) (H : Heap) : evC call it base (.region s_gnomonlaw25_UpdateGrows_r25 [] [125, 128, 129, 130, 131, 132, 133, 134]) f H = segC call it base s_gnomonlaw25_UpdateGrows_r25t1 [125, 128, 129, 130, 131, 132, 133, 134] H (evTale (symAll s_gnomonlaw25_UpdateGrows_r25p0 [125, 128, 129, 130, 131] [132, 133]) [125, 128, 129, 130, 131] f H) (origRow call it base s_gnomonlaw25_UpdateGrows_r25 [125, 128, 129, 130, 131, 132, 133, 134] f H) := row_seg call it base s_gnomonlaw25_UpdateGrows_r25p0 s_gnomonlaw25_UpdateGrows_r25t1 (by kernel_rfl) f H
theorem s_gnomonlaw25_UpdateGrows_r25t1_x (call : CallF) (it : IterF) (base : Nat) (f : List V) (H : Heap) : evC call it base (.region s_gnomonlaw25_UpdateGrows_r25t1 [] [125, 128, 129, 130, 131, 132, 133, 134]) f H = opsC [] s_gnomonlaw25_UpdateGrows_r25t1 [125, 128, 129, 130, 131, 132, 133, 134] (evOps call base [⟨some 134, (.call (.c (.fn 13 [] [])) [(.t 132), (.t 133)]), none⟩] f H) := row_ops call it base _ _ _ f H
def s_gnomonlaw25_UpdateGrows_r26t2 : List AOper := [⟨some 142, (.call (.c (.fn 13 [] [])) [(.t 135), (.t 141)]), none⟩]
def s_gnomonlaw25_UpdateGrows_r26p1 : List AOper := [⟨some 141, (.call (.c (.fn 8 [] [])) [(.t 140)]), none⟩]
def s_gnomonlaw25_UpdateGrows_r26t1 : List AOper := s_gnomonlaw25_UpdateGrows_r26p1 ++ s_gnomonlaw25_UpdateGrows_r26t2
def s_gnomonlaw25_UpdateGrows_r26p0 : List AOper := [⟨some 135, (.move (.t 21)), none⟩, ⟨some 136, (.move (.t 5)), none⟩, ⟨some 137, (.move (.t 27)), none⟩, ⟨some 138, (.indexAddr 2 (.t 136) (.t 137)), none⟩, ⟨some 139, (.fieldAddr 1 (.t 138)), none⟩, ⟨some 140, (.load false 1 (.t 139)), none⟩]
def s_gnomonlaw25_UpdateGrows_r26 : List AOper := s_gnomonlaw25_UpdateGrows_r26p0 ++ s_gnomonlaw25_UpdateGrows_r26t1
theorem s_gnomonlaw25_UpdateGrows_r26p0_tale (fr : List V) (H : Heap) : evTale (symAll s_gnomonlaw25_UpdateGrows_r26p0 [136, 137, 138, 139] [135, 140]) [136, 137, 138, 139] fr H = evTale (some (141, [], [(135, (.t 21)), (140, (.op (.load false 1 (.t 0)) [(.op (.fieldAddr 1 (.t 0)) [(.op (.indexAddr 2 (.t 0) (.t 1)) [(.t 5), (.t 27)])])]))])) [136, 137, 138, 139] fr H := tale_row (items := [.tt 21, .tt 5, .tt 27, .sub 1 [0, 0] [], .sub 1 [0] [], .sub 1 [] []]) (by kernel_rfl) fr H
theorem s_gnomonlaw25_UpdateGrows_r26_x (call : CallF) (it : IterF) (base : Nat) (f : List V) (H : Heap) : evC call it base (.region s_gnomonlaw25_UpdateGrows_r26 [] [135, 136, 137, 138, 139, 140, 141, 142]) f H = segC call it base s_gnomonlaw25_UpdateGrows_r26t1 [135, 136, 137, 138, 139, 140, 141, 142] H (evTale (symAll s_gnomonlaw25_UpdateGrows_r26p0 [136, 137, 138, 139] [135, 140]) [136, 137, 138, 139] f H) (origRow call it base s_gnomonlaw25_UpdateGrows_r26 [135, 136, 137, 138, 139, 140, 141, 142] f H) := row_seg call it base s_gnomonlaw25_UpdateGrows_r26p0 s_gnomonlaw25_UpdateGrows_r26t1 (by kernel_rfl) f H
theorem s_gnomonlaw25_UpdateGrows_r26t1_x (call : CallF) (it : IterF) (base : Nat) (f : List V) (H : Heap) : evC call it base (.region s_gnomonlaw25_UpdateGrows_r26t1 [] [135, 136, 137, 138, 139, 140, 141, 142]) f H = thenC call it base (.region s_gnomonlaw25_UpdateGrows_r26t2 [] [135, 136, 137, 138, 139, 140, 141, 142]) (opsC [] s_gnomonlaw25_UpdateGrows_r26p1 [140] (evOps call base [⟨some 141, (.call (.c (.fn 8 [] [])) [(.t 140)]), none⟩] f H)) := (row_op call it base s_gnomonlaw25_UpdateGrows_r26p1 s_gnomonlaw25_UpdateGrows_r26t2 (kc := [140]) (by kernel_rfl) f H).trans (by rw [row_ops]; rfl)
theorem s_gnomonlaw25_UpdateGrows_r26t2_x (call : CallF) (it : IterF) (base : Nat) (f : List V) (H : Heap) : evC call it base (.region s_gnomonlaw25_UpdateGrows_r26t2 [] [135, 136, 137, 138, 139, 140, 141, 142]) f H = opsC [] s_gnomonlaw25_UpdateGrows_r26t2 [135, 136, 137, 138, 139, 140, 141, 142] (evOps call base [⟨some 142, (.call (.c (.fn 13 [] [])) [(.t 135), (.t 141)]), none⟩] f H) := row_ops call it base _ _ _ f H
def s_gnomonlaw25_UpdateGrows_r27 : List AOper := [
  ⟨some 126, (.move (.t 27)), none⟩,
  ⟨some 127, (.bin .add (.t 126) (.c (.s (.int .i64 1)))), none⟩,
  ⟨some 27, (.move (.t 127)), none⟩]
theorem s_gnomonlaw25_UpdateGrows_r27_tale (fr : List V) (H : Heap) : evTale (symAll s_gnomonlaw25_UpdateGrows_r27 [126, 127] [27]) [126, 127] fr H = evTale (some (128, [], [(27, (.op (.bin .add (.t 0) (.c (.s (.int .i64 1)))) [(.t 27), (.c (.s (.int .i64 1)))]))])) [126, 127] fr H := tale_row (items := [.tt 27, .sub 0 [] [], .sub 0 [] []]) (by kernel_rfl) fr H
def s_gnomonlaw25_UpdateGrows_l1_b : ACode :=
  (.seq (.seq (.regionE s_gnomonlaw25_UpdateGrows_r24 [122, 123, 124] [125])
  (.cond (.t 125)
  .skip
  (.exit 2)))
  (.seq (.block 3
  (.seq (.region s_gnomonlaw25_UpdateGrows_r25 [] [125, 128, 129, 130, 131, 132, 133, 134])
  (.region s_gnomonlaw25_UpdateGrows_r26 [] [135, 136, 137, 138, 139, 140, 141, 142])))
  (.regionE s_gnomonlaw25_UpdateGrows_r27 [126, 127] [27])))
def s_gnomonlaw25_UpdateGrows_l1 : ACode := s_gnomonlaw25_UpdateGrows_l1_b
theorem s_gnomonlaw25_UpdateGrows_l1_ev (call : CallF) (it : IterF) (base : Nat) (fr : List V) (H : Heap) : evC call it base s_gnomonlaw25_UpdateGrows_l1 fr H = evC call it base s_gnomonlaw25_UpdateGrows_l1_b fr H := rfl
def s_gnomonlaw25_UpdateGrows_r28t9 : List AOper := [⟨some 155, (.pick (.t 153) (.t 154) (.c (.s (.bool false)))), none⟩, ⟨some 14, (.move (.t 155)), none⟩]
def s_gnomonlaw25_UpdateGrows_r28p8 : List AOper := [⟨some 154, (.call (.c (.fn 7 [] [])) []), some (153, true)⟩]
def s_gnomonlaw25_UpdateGrows_r28t8 : List AOper := s_gnomonlaw25_UpdateGrows_r28p8 ++ s_gnomonlaw25_UpdateGrows_r28t9
def s_gnomonlaw25_UpdateGrows_r28p7 : List AOper := [⟨some 152, (.pick (.t 148) (.t 151) (.c (.s (.bool false)))), none⟩, ⟨some 153, (.move (.t 152)), none⟩]
def s_gnomonlaw25_UpdateGrows_r28t7 : List AOper := s_gnomonlaw25_UpdateGrows_r28p7 ++ s_gnomonlaw25_UpdateGrows_r28t8
def s_gnomonlaw25_UpdateGrows_r28p6 : List AOper := [⟨some 151, (.call (.c (.fn 14 [] [])) [(.t 149), (.t 150)]), some (148, true)⟩]
def s_gnomonlaw25_UpdateGrows_r28t6 : List AOper := s_gnomonlaw25_UpdateGrows_r28p6 ++ s_gnomonlaw25_UpdateGrows_r28t7
def s_gnomonlaw25_UpdateGrows_r28p5 : List AOper := [⟨some 150, (.move (.t 21)), some (148, true)⟩]
def s_gnomonlaw25_UpdateGrows_r28t5 : List AOper := s_gnomonlaw25_UpdateGrows_r28p5 ++ s_gnomonlaw25_UpdateGrows_r28t6
def s_gnomonlaw25_UpdateGrows_r28p4 : List AOper := [⟨some 149, (.move (.t 20)), some (148, true)⟩]
def s_gnomonlaw25_UpdateGrows_r28t4 : List AOper := s_gnomonlaw25_UpdateGrows_r28p4 ++ s_gnomonlaw25_UpdateGrows_r28t5
def s_gnomonlaw25_UpdateGrows_r28p3 : List AOper := [⟨some 148, (.move (.t 147)), none⟩]
def s_gnomonlaw25_UpdateGrows_r28t3 : List AOper := s_gnomonlaw25_UpdateGrows_r28p3 ++ s_gnomonlaw25_UpdateGrows_r28t4
def s_gnomonlaw25_UpdateGrows_r28p2 : List AOper := [⟨some 147, (.call (.c (.fn 14 [] [])) [(.t 143), (.t 146)]), none⟩]
def s_gnomonlaw25_UpdateGrows_r28t2 : List AOper := s_gnomonlaw25_UpdateGrows_r28p2 ++ s_gnomonlaw25_UpdateGrows_r28t3
def s_gnomonlaw25_UpdateGrows_r28p1 : List AOper := [⟨some 146, (.call (.c (.fn 10 [] [])) [(.t 144), (.t 145)]), none⟩]
def s_gnomonlaw25_UpdateGrows_r28t1 : List AOper := s_gnomonlaw25_UpdateGrows_r28p1 ++ s_gnomonlaw25_UpdateGrows_r28t2
def s_gnomonlaw25_UpdateGrows_r28p0 : List AOper := [⟨some 143, (.move (.t 20)), none⟩, ⟨some 144, (.move (.t 15)), none⟩, ⟨some 145, (.move (.t 26)), none⟩]
def s_gnomonlaw25_UpdateGrows_r28 : List AOper := s_gnomonlaw25_UpdateGrows_r28p0 ++ s_gnomonlaw25_UpdateGrows_r28t1
theorem s_gnomonlaw25_UpdateGrows_r28p0_tale (fr : List V) (H : Heap) : evTale (symAll s_gnomonlaw25_UpdateGrows_r28p0 [5, 15, 18, 26, 27, 125] [143, 144, 145]) [5, 15, 18, 26, 27, 125] fr H = evTale (some (146, [], [(143, (.t 20)), (144, (.t 15)), (145, (.t 26))])) [5, 15, 18, 26, 27, 125] fr H := tale_row (items := [.tt 20, .tt 15, .tt 26]) (by kernel_rfl) fr H
theorem s_gnomonlaw25_UpdateGrows_r28_x (call : CallF) (it : IterF) (base : Nat) (f : List V) (H : Heap) : evC call it base (.region s_gnomonlaw25_UpdateGrows_r28 [] [5, 15, 18, 20, 21, 26, 27, 125, 143, 144, 145, 146, 147, 148, 149, 150, 151, 152, 153, 154, 155]) f H = segC call it base s_gnomonlaw25_UpdateGrows_r28t1 [5, 15, 18, 20, 21, 26, 27, 125, 143, 144, 145, 146, 147, 148, 149, 150, 151, 152, 153, 154, 155] H (evTale (symAll s_gnomonlaw25_UpdateGrows_r28p0 [5, 15, 18, 26, 27, 125] [143, 144, 145]) [5, 15, 18, 26, 27, 125] f H) (origRow call it base s_gnomonlaw25_UpdateGrows_r28 [5, 15, 18, 20, 21, 26, 27, 125, 143, 144, 145, 146, 147, 148, 149, 150, 151, 152, 153, 154, 155] f H) := row_seg call it base s_gnomonlaw25_UpdateGrows_r28p0 s_gnomonlaw25_UpdateGrows_r28t1 (by kernel_rfl) f H
theorem s_gnomonlaw25_UpdateGrows_r28t1_x (call : CallF) (it : IterF) (base : Nat) (f : List V) (H : Heap) : evC call it base (.region s_gnomonlaw25_UpdateGrows_r28t1 [] [5, 15, 18, 20, 21, 26, 27, 125, 143, 144, 145, 146, 147, 148, 149, 150, 151, 152, 153, 154, 155]) f H = thenC call it base (.region s_gnomonlaw25_UpdateGrows_r28t2 [] [5, 15, 18, 20, 21, 26, 27, 125, 143, 144, 145, 146, 147, 148, 149, 150, 151, 152, 153, 154, 155]) (opsC [] s_gnomonlaw25_UpdateGrows_r28p1 [144, 145] (evOps call base [⟨some 146, (.call (.c (.fn 10 [] [])) [(.t 144), (.t 145)]), none⟩] f H)) := (row_op call it base s_gnomonlaw25_UpdateGrows_r28p1 s_gnomonlaw25_UpdateGrows_r28t2 (kc := [144, 145]) (by kernel_rfl) f H).trans (by rw [row_ops]; rfl)
theorem s_gnomonlaw25_UpdateGrows_r28t2_x (call : CallF) (it : IterF) (base : Nat) (f : List V) (H : Heap) : evC call it base (.region s_gnomonlaw25_UpdateGrows_r28t2 [] [5, 15, 18, 20, 21, 26, 27, 125, 143, 144, 145, 146, 147, 148, 149, 150, 151, 152, 153, 154, 155]) f H = thenC call it base (.region s_gnomonlaw25_UpdateGrows_r28t3 [] [5, 15, 18, 20, 21, 26, 27, 125, 143, 144, 145, 146, 147, 148, 149, 150, 151, 152, 153, 154, 155]) (opsC [] s_gnomonlaw25_UpdateGrows_r28p2 [143, 146] (evOps call base [⟨some 147, (.call (.c (.fn 14 [] [])) [(.t 143), (.t 146)]), none⟩] f H)) := (row_op call it base s_gnomonlaw25_UpdateGrows_r28p2 s_gnomonlaw25_UpdateGrows_r28t3 (kc := [143, 146]) (by kernel_rfl) f H).trans (by rw [row_ops]; rfl)
theorem s_gnomonlaw25_UpdateGrows_r28p3_tale (fr : List V) (H : Heap) : evTale (symAll s_gnomonlaw25_UpdateGrows_r28p3 [147] [148]) [147] fr H = evTale (some (149, [], [(148, (.t 147))])) [147] fr H := tale_row (items := [.tt 147]) (by kernel_rfl) fr H
theorem s_gnomonlaw25_UpdateGrows_r28t3_x (call : CallF) (it : IterF) (base : Nat) (f : List V) (H : Heap) : evC call it base (.region s_gnomonlaw25_UpdateGrows_r28t3 [] [5, 15, 18, 20, 21, 26, 27, 125, 143, 144, 145, 146, 147, 148, 149, 150, 151, 152, 153, 154, 155]) f H = segC call it base s_gnomonlaw25_UpdateGrows_r28t4 [5, 15, 18, 20, 21, 26, 27, 125, 143, 144, 145, 146, 147, 148, 149, 150, 151, 152, 153, 154, 155] H (evTale (symAll s_gnomonlaw25_UpdateGrows_r28p3 [147] [148]) [147] f H) (origRow call it base s_gnomonlaw25_UpdateGrows_r28t3 [5, 15, 18, 20, 21, 26, 27, 125, 143, 144, 145, 146, 147, 148, 149, 150, 151, 152, 153, 154, 155] f H) := row_seg call it base s_gnomonlaw25_UpdateGrows_r28p3 s_gnomonlaw25_UpdateGrows_r28t4 (by kernel_rfl) f H
theorem s_gnomonlaw25_UpdateGrows_r28t4_x (call : CallF) (it : IterF) (base : Nat) (f : List V) (H : Heap) : evC call it base (.region s_gnomonlaw25_UpdateGrows_r28t4 [] [5, 15, 18, 20, 21, 26, 27, 125, 143, 144, 145, 146, 147, 148, 149, 150, 151, 152, 153, 154, 155]) f H = thenC call it base (.region s_gnomonlaw25_UpdateGrows_r28t5 [] [5, 15, 18, 20, 21, 26, 27, 125, 143, 144, 145, 146, 147, 148, 149, 150, 151, 152, 153, 154, 155]) (opsC [] s_gnomonlaw25_UpdateGrows_r28p4 [20] (evOps call base [⟨some 149, (.move (.t 20)), some (148, true)⟩] f H)) := (row_op call it base s_gnomonlaw25_UpdateGrows_r28p4 s_gnomonlaw25_UpdateGrows_r28t5 (kc := [20]) (by kernel_rfl) f H).trans (by rw [row_ops]; rfl)
theorem s_gnomonlaw25_UpdateGrows_r28t5_x (call : CallF) (it : IterF) (base : Nat) (f : List V) (H : Heap) : evC call it base (.region s_gnomonlaw25_UpdateGrows_r28t5 [] [5, 15, 18, 20, 21, 26, 27, 125, 143, 144, 145, 146, 147, 148, 149, 150, 151, 152, 153, 154, 155]) f H = thenC call it base (.region s_gnomonlaw25_UpdateGrows_r28t6 [] [5, 15, 18, 20, 21, 26, 27, 125, 143, 144, 145, 146, 147, 148, 149, 150, 151, 152, 153, 154, 155]) (opsC [] s_gnomonlaw25_UpdateGrows_r28p5 [21] (evOps call base [⟨some 150, (.move (.t 21)), some (148, true)⟩] f H)) := (row_op call it base s_gnomonlaw25_UpdateGrows_r28p5 s_gnomonlaw25_UpdateGrows_r28t6 (kc := [21]) (by kernel_rfl) f H).trans (by rw [row_ops]; rfl)
theorem s_gnomonlaw25_UpdateGrows_r28t6_x (call : CallF) (it : IterF) (base : Nat) (f : List V) (H : Heap) : evC call it base (.region s_gnomonlaw25_UpdateGrows_r28t6 [] [5, 15, 18, 20, 21, 26, 27, 125, 143, 144, 145, 146, 147, 148, 149, 150, 151, 152, 153, 154, 155]) f H = thenC call it base (.region s_gnomonlaw25_UpdateGrows_r28t7 [] [5, 15, 18, 20, 21, 26, 27, 125, 143, 144, 145, 146, 147, 148, 149, 150, 151, 152, 153, 154, 155]) (opsC [] s_gnomonlaw25_UpdateGrows_r28p6 [149, 150] (evOps call base [⟨some 151, (.call (.c (.fn 14 [] [])) [(.t 149), (.t 150)]), some (148, true)⟩] f H)) := (row_op call it base s_gnomonlaw25_UpdateGrows_r28p6 s_gnomonlaw25_UpdateGrows_r28t7 (kc := [149, 150]) (by kernel_rfl) f H).trans (by rw [row_ops]; rfl)
theorem s_gnomonlaw25_UpdateGrows_r28p7_tale (fr : List V) (H : Heap) : evTale (symAll s_gnomonlaw25_UpdateGrows_r28p7 [148, 151, 152] [153]) [148, 151, 152] fr H = evTale (some (154, [], [(153, (.pick (.t 148) (.t 151) (.c (.s (.bool false)))))])) [148, 151, 152] fr H := tale_row (items := [.sub 0 [] [], .sub 0 [] []]) (by kernel_rfl) fr H
theorem s_gnomonlaw25_UpdateGrows_r28t7_x (call : CallF) (it : IterF) (base : Nat) (f : List V) (H : Heap) : evC call it base (.region s_gnomonlaw25_UpdateGrows_r28t7 [] [5, 15, 18, 20, 21, 26, 27, 125, 143, 144, 145, 146, 147, 148, 149, 150, 151, 152, 153, 154, 155]) f H = segC call it base s_gnomonlaw25_UpdateGrows_r28t8 [5, 15, 18, 20, 21, 26, 27, 125, 143, 144, 145, 146, 147, 148, 149, 150, 151, 152, 153, 154, 155] H (evTale (symAll s_gnomonlaw25_UpdateGrows_r28p7 [148, 151, 152] [153]) [148, 151, 152] f H) (origRow call it base s_gnomonlaw25_UpdateGrows_r28t7 [5, 15, 18, 20, 21, 26, 27, 125, 143, 144, 145, 146, 147, 148, 149, 150, 151, 152, 153, 154, 155] f H) := row_seg call it base s_gnomonlaw25_UpdateGrows_r28p7 s_gnomonlaw25_UpdateGrows_r28t8 (by kernel_rfl) f H
theorem s_gnomonlaw25_UpdateGrows_r28t8_x (call : CallF) (it : IterF) (base : Nat) (f : List V) (H : Heap) : evC call it base (.region s_gnomonlaw25_UpdateGrows_r28t8 [] [5, 15, 18, 20, 21, 26, 27, 125, 143, 144, 145, 146, 147, 148, 149, 150, 151, 152, 153, 154, 155]) f H = thenC call it base (.region s_gnomonlaw25_UpdateGrows_r28t9 [] [5, 15, 18, 20, 21, 26, 27, 125, 143, 144, 145, 146, 147, 148, 149, 150, 151, 152, 153, 154, 155]) (opsC [] s_gnomonlaw25_UpdateGrows_r28p8 [] (evOps call base [⟨some 154, (.call (.c (.fn 7 [] [])) []), some (153, true)⟩] f H)) := (row_op call it base s_gnomonlaw25_UpdateGrows_r28p8 s_gnomonlaw25_UpdateGrows_r28t9 (kc := []) (by kernel_rfl) f H).trans (by rw [row_ops]; rfl)
theorem s_gnomonlaw25_UpdateGrows_r28t9_tale (fr : List V) (H : Heap) : evTale (symAll s_gnomonlaw25_UpdateGrows_r28t9 [5, 15, 18, 20, 21, 26, 27, 125, 143, 144, 145, 146, 147, 148, 149, 150, 151, 152, 153, 154, 155] [14]) [5, 15, 18, 20, 21, 26, 27, 125, 143, 144, 145, 146, 147, 148, 149, 150, 151, 152, 153, 154, 155] fr H = evTale (some (156, [], [(14, (.pick (.t 153) (.t 154) (.c (.s (.bool false)))))])) [5, 15, 18, 20, 21, 26, 27, 125, 143, 144, 145, 146, 147, 148, 149, 150, 151, 152, 153, 154, 155] fr H := tale_row (items := [.sub 0 [] [], .sub 0 [] []]) (by kernel_rfl) fr H
theorem s_gnomonlaw25_UpdateGrows_r28t9_x (call : CallF) (it : IterF) (base : Nat) (f : List V) (H : Heap) : evC call it base (.region s_gnomonlaw25_UpdateGrows_r28t9 [] [5, 15, 18, 20, 21, 26, 27, 125, 143, 144, 145, 146, 147, 148, 149, 150, 151, 152, 153, 154, 155]) f H = segL H (evTale (symAll s_gnomonlaw25_UpdateGrows_r28t9 [5, 15, 18, 20, 21, 26, 27, 125, 143, 144, 145, 146, 147, 148, 149, 150, 151, 152, 153, 154, 155] [14]) [5, 15, 18, 20, 21, 26, 27, 125, 143, 144, 145, 146, 147, 148, 149, 150, 151, 152, 153, 154, 155] f H) (origRow call it base s_gnomonlaw25_UpdateGrows_r28t9 [5, 15, 18, 20, 21, 26, 27, 125, 143, 144, 145, 146, 147, 148, 149, 150, 151, 152, 153, 154, 155] f H) := row_last call it base _ f H
def s_gnomonlaw25_UpdateGrows : ACFun := { ntmps := 156, results := [(.tmp 14)], body :=
  (.seq (.regionE s_gnomonlaw25_UpdateGrows_r0 s_gnomonlaw25_UpdateGrows_r0_k [])
  (.seq (.seq (.region s_gnomonlaw25_UpdateGrows_r1 [] [28, 29, 30, 31, 32, 33, 34, 35, 36])
  (.cond (.t 37)
  (.seq (.region s_gnomonlaw25_UpdateGrows_r2 [] [0, 1, 2, 3, 4, 5, 6, 37, 38])
  .ret)
  .skip))
  (.seq (.region s_gnomonlaw25_UpdateGrows_r3 [] [0, 1, 2, 37, 39, 40, 41, 42, 43, 44, 45, 46])
  (.seq (.region s_gnomonlaw25_UpdateGrows_r4 [] [47, 48, 49, 50, 51, 52])
  (.seq (.region s_gnomonlaw25_UpdateGrows_r5 [] [53, 54, 55, 56])
  (.seq (.region s_gnomonlaw25_UpdateGrows_r6 [] [57, 58])
  (.seq (.region s_gnomonlaw25_UpdateGrows_r7 [] [59, 60, 61])
  (.seq (.seq (.region s_gnomonlaw25_UpdateGrows_r8 [] [62, 63, 64])
  (.cond (.t 65)
  (.seq (.regionE s_gnomonlaw25_UpdateGrows_r9 [3, 4, 5, 6, 15, 16, 17, 18, 19, 20, 21, 65] [14])
  .ret)
  .skip))
  (.seq (.seq (.regionE s_gnomonlaw25_UpdateGrows_r10 [65] [22])
  (.block 0
  (.loop [] s_gnomonlaw25_UpdateGrows_l0)))
  (.seq (.region s_gnomonlaw25_UpdateGrows_r22 [] [3, 4, 6, 16, 17, 19, 22, 67, 112, 113, 114, 115, 116, 117, 118, 119, 120, 121])
  (.seq (.seq (.regionE s_gnomonlaw25_UpdateGrows_r23 [] [27])
  (.block 2
  (.loop [] s_gnomonlaw25_UpdateGrows_l1)))
  (.seq (.region s_gnomonlaw25_UpdateGrows_r28 [] [5, 15, 18, 20, 21, 26, 27, 125, 143, 144, 145, 146, 147, 148, 149, 150, 151, 152, 153, 154, 155])
  .ret)))))))))))) }
def a_gnomonlaw25_UpdateGrows := And.intro @s_gnomonlaw25_UpdateGrows_r0_tale (And.intro @s_gnomonlaw25_UpdateGrows_r0_kT (And.intro @s_gnomonlaw25_UpdateGrows_r0_kA0 (And.intro @s_gnomonlaw25_UpdateGrows_r0_kA1 (And.intro @s_gnomonlaw25_UpdateGrows_r0_kA2 (And.intro @s_gnomonlaw25_UpdateGrows_r0_kA3 (And.intro @s_gnomonlaw25_UpdateGrows_r0_kA4 (And.intro @s_gnomonlaw25_UpdateGrows_r0_kA5 (And.intro @s_gnomonlaw25_UpdateGrows_r0_kA6 (And.intro @s_gnomonlaw25_UpdateGrows_r1p0_tale (And.intro @s_gnomonlaw25_UpdateGrows_r1_x (And.intro @s_gnomonlaw25_UpdateGrows_r1t1_x (And.intro @s_gnomonlaw25_UpdateGrows_r1t2_tale (And.intro @s_gnomonlaw25_UpdateGrows_r1t2_x (And.intro @s_gnomonlaw25_UpdateGrows_r2_x (And.intro @s_gnomonlaw25_UpdateGrows_r2t1_tale (And.intro @s_gnomonlaw25_UpdateGrows_r2t1_x (And.intro @s_gnomonlaw25_UpdateGrows_r3p0_tale (And.intro @s_gnomonlaw25_UpdateGrows_r3_x (And.intro @s_gnomonlaw25_UpdateGrows_r3t1_x (And.intro @s_gnomonlaw25_UpdateGrows_r3p2_tale (And.intro @s_gnomonlaw25_UpdateGrows_r3t2_x (And.intro @s_gnomonlaw25_UpdateGrows_r3t3_x (And.intro @s_gnomonlaw25_UpdateGrows_r3p4_tale (And.intro @s_gnomonlaw25_UpdateGrows_r3t4_x (And.intro @s_gnomonlaw25_UpdateGrows_r3t5_x (And.intro @s_gnomonlaw25_UpdateGrows_r3p6_tale (And.intro @s_gnomonlaw25_UpdateGrows_r3t6_x (And.intro @s_gnomonlaw25_UpdateGrows_r3t7_x (And.intro @s_gnomonlaw25_UpdateGrows_r3t8_tale (And.intro @s_gnomonlaw25_UpdateGrows_r3t8_x (And.intro @s_gnomonlaw25_UpdateGrows_r4p0_tale (And.intro @s_gnomonlaw25_UpdateGrows_r4_x (And.intro @s_gnomonlaw25_UpdateGrows_r4t1_x (And.intro @s_gnomonlaw25_UpdateGrows_r4t2_tale (And.intro @s_gnomonlaw25_UpdateGrows_r4t2_x (And.intro @s_gnomonlaw25_UpdateGrows_r5p0_tale (And.intro @s_gnomonlaw25_UpdateGrows_r5_x (And.intro @s_gnomonlaw25_UpdateGrows_r5t1_x (And.intro @s_gnomonlaw25_UpdateGrows_r5t2_x (And.intro @s_gnomonlaw25_UpdateGrows_r5t3_tale (And.intro @s_gnomonlaw25_UpdateGrows_r5t3_x (And.intro @s_gnomonlaw25_UpdateGrows_r6p0_tale (And.intro @s_gnomonlaw25_UpdateGrows_r6_x (And.intro @s_gnomonlaw25_UpdateGrows_r6t1_x (And.intro @s_gnomonlaw25_UpdateGrows_r6t2_tale (And.intro @s_gnomonlaw25_UpdateGrows_r6t2_x (And.intro @s_gnomonlaw25_UpdateGrows_r7p0_tale (And.intro @s_gnomonlaw25_UpdateGrows_r7_x (And.intro @s_gnomonlaw25_UpdateGrows_r7t1_x (And.intro @s_gnomonlaw25_UpdateGrows_r8p0_tale (And.intro @s_gnomonlaw25_UpdateGrows_r8_x (And.intro @s_gnomonlaw25_UpdateGrows_r8t1_x (And.intro @s_gnomonlaw25_UpdateGrows_r8t2_tale (And.intro @s_gnomonlaw25_UpdateGrows_r8t2_x (And.intro @s_gnomonlaw25_UpdateGrows_r9_tale (And.intro @s_gnomonlaw25_UpdateGrows_r10_tale (And.intro @s_gnomonlaw25_UpdateGrows_r11_tale (And.intro @s_gnomonlaw25_UpdateGrows_r12p0_tale (And.intro @s_gnomonlaw25_UpdateGrows_r12_x (And.intro @s_gnomonlaw25_UpdateGrows_r12t1_x (And.intro @s_gnomonlaw25_UpdateGrows_r12p2_tale (And.intro @s_gnomonlaw25_UpdateGrows_r12t2_x (And.intro @s_gnomonlaw25_UpdateGrows_r12t3_x (And.intro @s_gnomonlaw25_UpdateGrows_r12p4_tale (And.intro @s_gnomonlaw25_UpdateGrows_r12t4_x (And.intro @s_gnomonlaw25_UpdateGrows_r12t5_x (And.intro @s_gnomonlaw25_UpdateGrows_r12t6_tale (And.intro @s_gnomonlaw25_UpdateGrows_r12t6_x (And.intro @s_gnomonlaw25_UpdateGrows_r13_tale (And.intro @s_gnomonlaw25_UpdateGrows_r14p0_tale (And.intro @s_gnomonlaw25_UpdateGrows_r14_x (And.intro @s_gnomonlaw25_UpdateGrows_r14t1_x (And.intro @s_gnomonlaw25_UpdateGrows_r15_tale (And.intro @s_gnomonlaw25_UpdateGrows_r16p0_tale (And.intro @s_gnomonlaw25_UpdateGrows_r16_x (And.intro @s_gnomonlaw25_UpdateGrows_r16t1_x (And.intro @s_gnomonlaw25_UpdateGrows_r17_tale (And.intro @s_gnomonlaw25_UpdateGrows_r18p0_tale (And.intro @s_gnomonlaw25_UpdateGrows_r18_x (And.intro @s_gnomonlaw25_UpdateGrows_r18t1_x (And.intro @s_gnomonlaw25_UpdateGrows_r19p0_tale (And.intro @s_gnomonlaw25_UpdateGrows_r19_x (And.intro @s_gnomonlaw25_UpdateGrows_r19t1_x (And.intro @s_gnomonlaw25_UpdateGrows_r19t2_x (And.intro @s_gnomonlaw25_UpdateGrows_r19p3_tale (And.intro @s_gnomonlaw25_UpdateGrows_r19t3_x (And.intro @s_gnomonlaw25_UpdateGrows_r19t4_x (And.intro @s_gnomonlaw25_UpdateGrows_r19t5_x (And.intro @s_gnomonlaw25_UpdateGrows_r19t6_x (And.intro @s_gnomonlaw25_UpdateGrows_r19t7_x (And.intro @s_gnomonlaw25_UpdateGrows_r19t8_x (And.intro @s_gnomonlaw25_UpdateGrows_r19t9_x (And.intro @s_gnomonlaw25_UpdateGrows_r19t10_tale (And.intro @s_gnomonlaw25_UpdateGrows_r19t10_x (And.intro @s_gnomonlaw25_UpdateGrows_r20_tale (And.intro @s_gnomonlaw25_UpdateGrows_r21_tale (And.intro @s_gnomonlaw25_UpdateGrows_l0_ev (And.intro @s_gnomonlaw25_UpdateGrows_r22p0_tale (And.intro @s_gnomonlaw25_UpdateGrows_r22_x (And.intro @s_gnomonlaw25_UpdateGrows_r22t1_x (And.intro @s_gnomonlaw25_UpdateGrows_r22p2_tale (And.intro @s_gnomonlaw25_UpdateGrows_r22t2_x (And.intro @s_gnomonlaw25_UpdateGrows_r22t3_x (And.intro @s_gnomonlaw25_UpdateGrows_r22t4_x (And.intro @s_gnomonlaw25_UpdateGrows_r22t5_x (And.intro @s_gnomonlaw25_UpdateGrows_r22t6_tale (And.intro @s_gnomonlaw25_UpdateGrows_r22t6_x (And.intro @s_gnomonlaw25_UpdateGrows_r23_tale (And.intro @s_gnomonlaw25_UpdateGrows_r24_tale (And.intro @s_gnomonlaw25_UpdateGrows_r25p0_tale (And.intro @s_gnomonlaw25_UpdateGrows_r25_x (And.intro @s_gnomonlaw25_UpdateGrows_r25t1_x (And.intro @s_gnomonlaw25_UpdateGrows_r26p0_tale (And.intro @s_gnomonlaw25_UpdateGrows_r26_x (And.intro @s_gnomonlaw25_UpdateGrows_r26t1_x (And.intro @s_gnomonlaw25_UpdateGrows_r26t2_x (And.intro @s_gnomonlaw25_UpdateGrows_r27_tale (And.intro @s_gnomonlaw25_UpdateGrows_l1_ev (And.intro @s_gnomonlaw25_UpdateGrows_r28p0_tale (And.intro @s_gnomonlaw25_UpdateGrows_r28_x (And.intro @s_gnomonlaw25_UpdateGrows_r28t1_x (And.intro @s_gnomonlaw25_UpdateGrows_r28t2_x (And.intro @s_gnomonlaw25_UpdateGrows_r28p3_tale (And.intro @s_gnomonlaw25_UpdateGrows_r28t3_x (And.intro @s_gnomonlaw25_UpdateGrows_r28t4_x (And.intro @s_gnomonlaw25_UpdateGrows_r28t5_x (And.intro @s_gnomonlaw25_UpdateGrows_r28t6_x (And.intro @s_gnomonlaw25_UpdateGrows_r28p7_tale (And.intro @s_gnomonlaw25_UpdateGrows_r28t7_x (And.intro @s_gnomonlaw25_UpdateGrows_r28t8_x (And.intro @s_gnomonlaw25_UpdateGrows_r28t9_tale (@s_gnomonlaw25_UpdateGrows_r28t9_x))))))))))))))))))))))))))))))))))))))))))))))))))))))))))))))))))))))))))))))))))))))))))))))))))))))))))))))))))))))))))))))))))))
theorem CB4_3 : compK Try.prog PX0 3 = some (false, s_gnomonlaw25_UpdateGrows.ntmps, s_gnomonlaw25_UpdateGrows.results, s_gnomonlaw25_UpdateGrows.body.bare) := by kernel_rfl
end Go.Proofs.Ytlclbbieacjmfaa
