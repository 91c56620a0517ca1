/- Texts of the proof: GraphF3, AmM, GraphF4, GraphF5, AmN, GraphF6, GraphF7, GraphF8, GraphF9, GraphF10, GraphF11, GraphF12, GraphF13, GraphF14. -/
import Derived.Test.YtmnlagcmpgilaaaP0
import Derived.Test.YtmnlagcmpgilaaaP1
import Derived.Test.YtmnlagcmpgilaaaP2
import Derived.Test.YtmnlagcmpgilaaaP3
set_option linter.all false
set_option maxRecDepth 100000
namespace Go.Proofs.Ytmnlagcmpgilaaa
open Go.AM
theorem wrap_pred {n : Nat} (h1 : 1 ≤ n) (h : n < 2 ^ 63) : IntKind.i64.wrap ((n : Int) - 1) = ((n - 1 : Nat) : Int) := by rw [IntKind.wrap_i64]; omega
/-- what is left of adjacent equals -/
def chg : Int → List Int → List Int
  | _, [] => []
  | p, x :: r => if x == p then chg x r else x :: chg x r
def compactZ : List Int → List Int
  | [] => []
  | x :: r => x :: chg x r
theorem chg_len : ∀ (r : List Int) (p : Int), (chg p r).length ≤ r.length := by
  intro r
  induction r with
  | nil => intro p; simp [chg]
  | cons x r ih => intro p; simp only [chg]; split <;> simp <;> have := ih x <;> omega
theorem compact_inner (call : CallF) (base : Nat) (id g n k0 : Nat) (l : List Int) (hl : l.length = n) (hb : base ≤ id) (hn : n < 2 ^ 62) (H : Heap) (hid : id < H.length) (hk0 : k0 < n) :
    ∀ (r : List Int) (k2 k : Nat) (c : List V), l.drop (k0 + k2) = r → 1 ≤ k2 → k0 + k2 ≤ n → k0 ≤ k → k < k0 + k2 → n ≤ c.length → (∀ j, k0 + k2 - 1 ≤ j → j < n → c[j]? = some (iV (l.getD j 0))) →
    ∃ c', itW (evC call itW base s_slices_Compact_int_int_l0) [] H.length (frOf 61 [(0, .sl id g 0 n 1), (3, .s (.int .i64 k)), (4, .sl id g k0 (n - k0) 1), (5, .s (.int .i64 k2))]) (H.set id (.cells g c)) =
      some (.ext 2, frOf 61 [(0, .sl id g 0 n 1), (3, .s (.int .i64 (k + (chg (l.getD (k0 + k2 - 1) 0) r).length : Nat))), (4, .sl id g k0 (n - k0) 1), (5, .s (.int .i64 (n - k0 : Nat))), (32, .s (.bool false))], H.set id (.cells g c')) ∧
      c'.length = c.length ∧ c'.take (k + (chg (l.getD (k0 + k2 - 1) 0) r).length) = c.take k ++ (chg (l.getD (k0 + k2 - 1) 0) r).map iV := by
  intro r
  have hL : ∀ c, (H.set id (.cells g c)).length = H.length := fun c => List.length_set
  induction r with
  | nil =>
    intro k2 k c hd h1 h2 h3 h4 hc hr
    have hk : k2 = n - k0 := by
      have := congrArg List.length hd
      simp at this
      omega
    subst hk
    refine ⟨c, ?_, rfl, by simp [chg]⟩
    rw [itW_step]
    simp only [a_slices_Compact_int_int,s_slices_Compact_int_int_l0_b,s_slices_Compact_int_int_l1_b, am0,am1,am2,am3,am4,am5,am6,am7,bl,i64,reduceIte,reduceCtorEq,Nat.reduceEqDiff,Nat.reduceLT,Nat.reduceLeDiff,Nat.reduceBEq,Nat.reduceAdd,fillA,splice,Nat.reduceMul,al0,al1,al2,al3,al4,al5,al6,al7,al8,al9,al10,al11,al12,al13,al14,al15,al16,al17,al18,al19,al20,al21,al22,al23,al24,al25,al26,al27,al28,al29,al30,al31,al32,al33,al34, Int.lt_irrefl, trim_same (hL _), chg]
  | cons x r ih =>
    intro k2 k c hd h1 h2 h3 h4 hc hr
    have hx : l[k0 + k2]? = some x := by have := congrArg (·[0]?) hd; simp only [List.getElem?_drop] at this; exact this
    have hlt : k0 + k2 < n := by have := (List.getElem?_eq_some_iff.1 hx).1; omega
    have hd' : l.drop (k0 + (k2 + 1)) = r := by
      rw [← Nat.add_assoc, ← List.drop_drop, hd]; rfl
    have hxD : l.getD (k0 + k2) 0 = x := by simp [List.getD, hx]
    have hg : getC (H.set id (.cells g c)) id g = some c := by simp [getC, hid]
    have hrd : Rd (H.set id (.cells g c)) (.sl id g k0 (n - k0) 1) ((c.drop k0).take (n - k0)) := Rd.sl hg (by omega)
    have e1 : ((c.drop k0).take (n - k0))[k2]? = some (iV x) := by
      rw [List.getElem?_take_of_lt (by omega), List.getElem?_drop, hr _ (by omega) hlt, hxD]
    have e2 : ((c.drop k0).take (n - k0))[k2 - 1]? = some (iV (l.getD (k0 + k2 - 1) 0)) := by
      rw [List.getElem?_take_of_lt (by omega), List.getElem?_drop, ← hr _ (by omega) (by omega)]
      congr 1; omega
    obtain ⟨a, ha1, ha2⟩ := hrd.at' trivial e1
    obtain ⟨b, hb1, hb2⟩ := hrd.at' trivial e2
    have hwp := wrap_pred (n := k2) h1 (by omega)
    have hw2 := wrap_pos (n := k2) (by omega)
    have hw3 := wrap_pos (n := k) (by omega)
    have hlt' : (k2 : Int) < ((n - k0 : Nat) : Int) := by omega
    have hkn : (k : Int) < (n : Int) := by omega
    have hst := storeV_at (v := iV x) hg hb rfl (off := k) (by omega)
    unfold iV at ha2 hb2 hst
    rw [itW_step]
    cases heq : x == l.getD (k0 + k2 - 1) 0 with
    | true =>
      have hne : (x != l.getD (k0 + k2 - 1) 0) = false := by rw [bne, heq]; rfl
      have hpx : l.getD (k0 + (k2 + 1) - 1) 0 = x := by rw [← hxD]; congr 1
      obtain ⟨c', q1, q2, q3⟩ := ih (k2 + 1) k c hd' (by omega) (by omega) h3 (by omega) hc (fun j hj1 hj2 => hr j (by omega) hj2)
      rw [hpx] at q1 q3
      refine ⟨c', ?_, q2, by simpa only [chg, heq, if_true] using q3⟩
      simp only [a_slices_Compact_int_int,s_slices_Compact_int_int_l0_b,s_slices_Compact_int_int_l1_b, am0,am1,am2,am3,am4,am5,am6,am7,bl,i64,reduceIte,reduceCtorEq,Nat.reduceEqDiff,Nat.reduceLT,Nat.reduceLeDiff,Nat.reduceBEq,Nat.reduceAdd,fillA,splice,Nat.reduceMul,al0,al1,al2,al3,al4,al5,al6,al7,al8,al9,al10,al11,al12,al13,al14,al15,al16,al17,al18,al19,al20,al21,al22,al23,al24,al25,al26,al27,al28,al29,al30,al31,al32,al33,al34, hlt', ha1, ha2, hwp, hb1, hb2, hne, hw2, trim_same (hL _), chg, heq]
      exact q1
    | false =>
      have hne : (x != l.getD (k0 + k2 - 1) 0) = true := by rw [bne, heq]; rfl
      have hpx : l.getD (k0 + (k2 + 1) - 1) 0 = x := by rw [← hxD]; congr 1
      obtain ⟨c', q1, q2, q3⟩ := ih (k2 + 1) (k + 1) (c.set k (iV x)) hd' (by omega) (by omega) (by omega) (by omega) (by rw [List.length_set]; exact hc) (fun j hj1 hj2 => by rw [List.getElem?_set_ne (by omega)]; exact hr j (by omega) hj2)
      rw [hpx] at q1 q3
      have hkk : k + 1 + (chg x r).length = k + ((chg x r).length + 1) := by omega
      rw [hkk] at q1 q3
      refine ⟨c', ?_, by rw [q2, List.length_set], ?_⟩
      · unfold iV at q1
        simp only [a_slices_Compact_int_int,s_slices_Compact_int_int_l0_b,s_slices_Compact_int_int_l1_b, am0,am1,am2,am3,am4,am5,am6,am7,bl,i64,reduceIte,reduceCtorEq,Nat.reduceEqDiff,Nat.reduceLT,Nat.reduceLeDiff,Nat.reduceBEq,Nat.reduceAdd,fillA,splice,Nat.reduceMul,al0,al1,al2,al3,al4,al5,al6,al7,al8,al9,al10,al11,al12,al13,al14,al15,al16,al17,al18,al19,al20,al21,al22,al23,al24,al25,al26,al27,al28,al29,al30,al31,al32,al33,al34, hlt', ha1, ha2, hwp, hb1, hb2, hne, hw2, hw3, hkn, hst, trim_same (hL _), chg, heq]
        exact q1
      · simp only [chg, heq, Bool.false_eq_true, if_false, List.length_cons, List.map_cons]
        rw [q3, List.take_succ_eq_append_getElem (by rw [List.length_set]; omega), List.take_set_of_le (Nat.le_refl _)]
        simp
/-- the outer loop: till two stand side by side that are one -/
theorem compact_outer (call : CallF) (base : Nat) (id g n : Nat) (l : List Int) (hl : l.length = n) (hb : base ≤ id) (hn : n < 2 ^ 62) (H : Heap) (hid : id < H.length) (c : List V) (hc : n ≤ c.length) (hg : getC H id g = some c) (hr : ∀ j, j < n → c[j]? = some (iV (l.getD j 0))) :
    ∀ (r : List Int) (k : Nat), l.drop k = r → 1 ≤ k → k ≤ n →
    (itW (evC call itW base s_slices_Compact_int_int_l1) [] H.length (frOf 61 [(0, .sl id g 0 n 1), (3, .s (.int .i64 k))]) H = some (.ext 0, frOf 61 [(0, .sl id g 0 n 1), (3, .s (.int .i64 n)), (13, .s (.bool false))], H) ∧ chg (l.getD (k - 1) 0) r = r) ∨
    ∃ c', itW (evC call itW base s_slices_Compact_int_int_l1) [] H.length (frOf 61 [(0, .sl id g 0 n 1), (3, .s (.int .i64 k))]) H = some (.ret, frOf 61 [(2, .sl id g 0 (k + (chg (l.getD (k - 1) 0) r).length) 1)], H.set id (.cells g c')) ∧
      c'.length = c.length ∧ c'.take (k + (chg (l.getD (k - 1) 0) r).length) = (l.take k ++ chg (l.getD (k - 1) 0) r).map iV := by
  intro r
  induction r with
  | nil =>
    intro k hd h1 h2
    have hk : k = n := by
      have := congrArg List.length hd
      simp at this
      omega
    subst hk
    refine .inl ⟨?_, rfl⟩
    rw [itW_step]
    simp only [a_slices_Compact_int_int,s_slices_Compact_int_int_l0_b,s_slices_Compact_int_int_l1_b, am0,am1,am2,am3,am4,am5,am6,am7,bl,i64,reduceIte,reduceCtorEq,Nat.reduceEqDiff,Nat.reduceLT,Nat.reduceLeDiff,Nat.reduceBEq,Nat.reduceAdd,fillA,splice,Nat.reduceMul,al0,al1,al2,al3,al4,al5,al6,al7,al8,al9,al10,al11,al12,al13,al14,al15,al16,al17,al18,al19,al20,al21,al22,al23,al24,al25,al26,al27,al28,al29,al30,al31,al32,al33,al34, Int.lt_irrefl, trim_same rfl]
  | cons x r ih =>
    intro k hd h1 h2
    have hx : l[k]? = some x := by have := congrArg (·[0]?) hd; simp only [List.getElem?_drop] at this; exact this
    have hlt : k < n := by have := (List.getElem?_eq_some_iff.1 hx).1; omega
    have hd' : l.drop (k + 1) = r := by
      rw [← List.drop_drop, hd]; rfl
    have hxD : l.getD k 0 = x := by simp [List.getD, hx]
    have hrd : Rd H (.sl id g 0 n 1) ((c.drop 0).take n) := Rd.sl hg (by omega)
    have e1 : ((c.drop 0).take n)[k]? = some (iV x) := by
      rw [List.getElem?_take_of_lt (by omega), List.getElem?_drop, Nat.zero_add, hr _ (by omega), hxD]
    have e2 : ((c.drop 0).take n)[k - 1]? = some (iV (l.getD (k - 1) 0)) := by
      rw [List.getElem?_take_of_lt (by omega), List.getElem?_drop, Nat.zero_add, ← hr _ (by omega)]
    obtain ⟨a, ha1, ha2⟩ := hrd.at' trivial e1
    obtain ⟨b, hb1, hb2⟩ := hrd.at' trivial e2
    have hwp := wrap_pred (n := k) h1 (by omega)
    have hw2 := wrap_pos (n := k) (by omega)
    have hlt' : (k : Int) < (n : Int) := by omega
    unfold iV at ha2 hb2
    cases heq : x == l.getD (k - 1) 0 with
    | true =>
      obtain ⟨c', q1, q2, q3⟩ := compact_inner call base id g n k l hl hb hn H hid hlt r 1 k c hd' (Nat.le_refl _) (by omega) (Nat.le_refl _) (by omega) hc (fun j _ hj2 => hr j hj2)
      have hkk : k + 1 - 1 = k := by omega
      rw [hkk, hxD] at q1 q3
      rw [getC_same hg] at q1
      have c1 : ((1 : Nat) : Int) = 1 := rfl
      rw [c1] at q1
      have hm : k + (chg x r).length ≤ n := by
        have h1 := chg_len r x
        have h2 := congrArg List.length hd
        simp at h2
        omega
      have hmi : ((k + (chg x r).length : Nat) : Int) ≤ (n : Int) := by omega
      have hg' : getC (H.set id (.cells g c')) id g = some c' := by simp [getC, hid]
      have hcl := clear_at (zero := [.s (.int .i64 0)]) (off := k + (chg x r).length) (len := n - (k + (chg x r).length)) hg' hb rfl rfl (by omega)
      have hchg : chg (l.getD (k - 1) 0) (x :: r) = chg x r := by simp only [chg, heq, if_true]
      rw [hchg]
      refine .inr ⟨c'.take (k + (chg x r).length) ++ (List.replicate (n - (k + (chg x r).length)) [V.s (.int .i64 0)]).flatten ++ c'.drop (k + (chg x r).length + (n - (k + (chg x r).length))), ?_, ?_, ?_⟩
      · have hmn : ((n : Int) - (k + (chg x r).length : Nat)).toNat = n - (k + (chg x r).length) := by omega
        have hmi' : (k : Int) + ((chg x r).length : Int) ≤ n := by omega
        have hkn : (k : Int) ≤ n := by omega
        have hnk : ((n : Int) - (k : Int)).toNat = n - k := by omega
        have hmz : ((k + (chg x r).length : Nat) : Int) - 0 = (k + (chg x r).length : Nat) := by omega
        rw [itW_step]
        simp only [a_slices_Compact_int_int,s_slices_Compact_int_int_l0_b,s_slices_Compact_int_int_l1_b, am0,am1,am2,am3,am4,am5,am6,am7,bl,i64,reduceIte,reduceCtorEq,Nat.reduceEqDiff,Nat.reduceLT,Nat.reduceLeDiff,Nat.reduceBEq,Nat.reduceAdd,fillA,splice,Nat.reduceMul,al0,al1,al2,al3,al4,al5,al6,al7,al8,al9,al10,al11,al12,al13,al14,al15,al16,al17,al18,al19,al20,al21,al22,al23,al24,al25,al26,al27,al28,al29,al30,al31,al32,al33,al34, hlt', ha1, ha2, hwp, hb1, hb2, heq, trim_same rfl, hkn, hnk, q1, hmi, hmn, hcl, hmz, Int.toNat_natCast, Nat.mul_one, Nat.zero_add, List.set_set, Int.natCast_nonneg]
        rw [trim_same (List.length_set)]
      · simp
        omega
      · rw [List.append_assoc, List.take_append_of_le_length (by simp; omega), List.take_take, Nat.min_self, q3, List.map_append]
        congr 1
        refine List.ext_getElem? fun j => ?_
        by_cases hj : j < k
        · rw [List.getElem?_take_of_lt hj, hr j (by omega), List.getElem?_map, List.getElem?_take_of_lt hj, List.getElem?_eq_getElem (by omega)]
          simp [List.getD, List.getElem?_eq_getElem (show j < l.length by omega)]
        · rw [List.getElem?_eq_none (by simp; omega), List.getElem?_eq_none (by simp; omega)]
    | false =>
      have hchg : chg (l.getD (k - 1) 0) (x :: r) = x :: chg x r := by simp only [chg, heq, Bool.false_eq_true, if_false]
      have hkk : k + 1 - 1 = k := by omega
      rw [hchg]
      have hI := ih (k + 1) hd' (by omega) (by omega)
      rw [hkk, hxD] at hI
      rcases hI with ⟨q, q2⟩ | ⟨c', q1, q2, q3⟩
      · refine .inl ⟨?_, by rw [q2]⟩
        rw [itW_step]
        simp only [a_slices_Compact_int_int,s_slices_Compact_int_int_l0_b,s_slices_Compact_int_int_l1_b, am0,am1,am2,am3,am4,am5,am6,am7,bl,i64,reduceIte,reduceCtorEq,Nat.reduceEqDiff,Nat.reduceLT,Nat.reduceLeDiff,Nat.reduceBEq,Nat.reduceAdd,fillA,splice,Nat.reduceMul,al0,al1,al2,al3,al4,al5,al6,al7,al8,al9,al10,al11,al12,al13,al14,al15,al16,al17,al18,al19,al20,al21,al22,al23,al24,al25,al26,al27,al28,al29,al30,al31,al32,al33,al34, hlt', ha1, ha2, hwp, hb1, hb2, heq, hw2, trim_same rfl]
        exact q
      · have hl2 : k + 1 + (chg x r).length = k + (x :: chg x r).length := by simp; omega
        have hl3 : l.take (k + 1) ++ chg x r = l.take k ++ x :: chg x r := by
          rw [List.take_succ_eq_append_getElem (by omega), List.append_assoc]
          have : l[k] = x := by have := List.getElem?_eq_getElem (l := l) (i := k) (by omega); rw [hx] at this; injection this with h; exact h.symm
          rw [this]; rfl
        rw [hl2] at q1 q3
        rw [hl3] at q3
        refine .inr ⟨c', ?_, q2, q3⟩
        rw [itW_step]
        simp only [a_slices_Compact_int_int,s_slices_Compact_int_int_l0_b,s_slices_Compact_int_int_l1_b, am0,am1,am2,am3,am4,am5,am6,am7,bl,i64,reduceIte,reduceCtorEq,Nat.reduceEqDiff,Nat.reduceLT,Nat.reduceLeDiff,Nat.reduceBEq,Nat.reduceAdd,fillA,splice,Nat.reduceMul,al0,al1,al2,al3,al4,al5,al6,al7,al8,al9,al10,al11,al12,al13,al14,al15,al16,al17,al18,al19,al20,al21,al22,al23,al24,al25,al26,al27,al28,al29,al30,al31,al32,al33,al34, hlt', ha1, ha2, hwp, hb1, hb2, heq, hw2, trim_same rfl]
        exact q1
end Go.Proofs.Ytmnlagcmpgilaaa
/-
  Slices made, rows of slices, slices of the call's own.
-/
namespace Go.AM
def makeV (H : Heap) (zero : List V) (sz bytes : Nat) (a b : V) : Option (V × Heap) :=
  match a, b with
  | .s (.int _ l), .s (.int _ c) => if 0 ≤ l ∧ l ≤ c ∧ c * bytes ≤ 2 ^ 47 then some (.sl H.length 0 0 l.toNat sz, H ++ [.cells 0 (List.replicate l.toNat zero).flatten]) else none
  | _, _ => none
theorem op_mkSl (call : CallF) (base : Nat) (fr : List V) (H : Heap) (zero : List V) (sz bytes : Nat) (x y : Opd) : evOp call base fr H (.mkSl zero sz bytes x y) = makeV H zero sz bytes (ev fr x) (ev fr y) := rfl
theorem make_n {H : Heap} {zero : List V} {sz bytes : Nat} {k k' : IntKind} {n : Nat} (h : n * bytes ≤ 2 ^ 47) : makeV H zero sz bytes (.s (.int k n)) (.s (.int k' n)) = some (.sl H.length 0 0 n sz, H ++ [.cells 0 (List.replicate n zero).flatten]) := by
  have h1 : (n : Int) * (bytes : Int) ≤ 2 ^ 47 := by exact_mod_cast h
  have h2 : (0 : Int) ≤ n ∧ (n : Int) ≤ n ∧ (n : Int) * (bytes : Int) ≤ 2 ^ 47 := ⟨by omega, by omega, h1⟩
  simp only [makeV, h2, and_self, if_true, Int.toNat_natCast]
theorem xsub_mkFn (H : Heap) (f : Nat) (a b : List Opd) (vs : List V) : xSub H (.mkFn f a b) (some vs) = some (.fn f (a.map (ev vs)) (b.map (ev vs))) := rfl
theorem trim_le {m : Nat} {fr : List V} {H : Heap} (h : m ≤ H.length) : m ≤ (trim m fr H).length := by
  rcases trim_or m fr H with e | ⟨e, _⟩ <;> rw [e]
  · exact h
  · rw [List.length_take]; omega
theorem flat_one (n : Nat) (x : V) : (List.replicate n [x]).flatten = List.replicate n x := by
  induction n with
  | zero => rfl
  | succ n ih => simp [List.replicate_succ, ih]

/-! ### What is left behind a turn of a loop -/
theorem trim_or' (m : Nat) (fr : List V) (H : Heap) : trim m fr H = H ∨ (trim m fr H = H.take m ∧ (∀ v ∈ fr, idsUnder m 8 v = true) ∧ ∀ id g c, id < m → getC H id g = some c → ∀ i h o n z, V.sl i h o n z ∈ c → i < m) := by
  unfold trim
  split
  · rename_i h
    simp only [Bool.and_eq_true, List.all_eq_true] at h
    refine .inr ⟨rfl, h.1, ?_⟩
    intro id g c hid hc i h' o n z hx
    unfold getC at hc
    split at hc
    · rename_i g' c' hh
      split at hc
      · cases hc
        have hm : Ob.cells g' c ∈ H.take m := by
          have : (H.take m)[id]? = some (Ob.cells g' c) := by rw [List.getElem?_take_of_lt hid]; exact hh
          exact List.mem_of_getElem? this
        have := h.2 _ hm
        simp only [Ob.under, List.all_eq_true] at this
        have := this _ hx
        simpa [idsUnder] using this
      · cases hc
    · cases hc
  · exact .inl rfl
theorem trim_get {m : Nat} {fr : List V} {H : Heap} {id g : Nat} {c : List V} (hc : getC H id g = some c) (hid : id < m) : getC (trim m fr H) id g = some c := by
  rcases trim_or' m fr H with e | ⟨e, _⟩ <;> rw [e]
  · exact hc
  · unfold getC at hc ⊢
    rw [List.getElem?_take_of_lt hid]; exact hc

/-! ### Slices of the call's own -/
def OwnN (m : Nat) (H : Heap) (v : V) (l : List V) : Prop := (l = [] ∧ (v = nilS ∨ v = .esl)) ∨ ∃ id g c, v = .sl id g 0 l.length 1 ∧ getC H id g = some c ∧ l.length ≤ c.length ∧ c.take l.length = l ∧ m ≤ id
theorem OwnN.rd {m : Nat} {H : Heap} {v : V} {l : List V} (h : OwnN m H v l) : Rd H v l := by
  rcases h with ⟨rfl, rfl | rfl⟩ | ⟨id, g, c, rfl, hc, hl, ht, _⟩
  · exact Rd.nil H
  · exact Rd.esl H
  · have := Rd.sl hc (off := 0) (n := l.length) (by omega)
    rwa [List.drop_zero, ht] at this
theorem OwnN.wide {m : Nat} {H : Heap} {v : V} {l : List V} (h : OwnN m H v l) : Wide1 v := by
  rcases h with ⟨_, rfl | rfl⟩ | ⟨_, _, _, rfl, _⟩ <;> trivial
theorem OwnN.one {m : Nat} {H : Heap} {v : V} {l : List V} (h : OwnN m H v l) : v.one = true := h.rd.one
theorem OwnN.mono {m k : Nat} {H : Heap} {v : V} {l : List V} (h : OwnN m H v l) (hk : k ≤ m) : OwnN k H v l := by
  rcases h with h | ⟨id, g, c, h1, h2, h3, h4, h5⟩
  · exact .inl h
  · exact .inr ⟨id, g, c, h1, h2, h3, h4, by omega⟩
theorem OwnN.ext {m : Nat} {H H' : Heap} {v : V} {l : List V} (h : OwnN m H v l) (k : Ext H H') : OwnN m H' v l := by
  rcases h with h | ⟨id, g, c, h1, h2, h3, h4, h5⟩
  · exact .inl h
  · exact .inr ⟨id, g, c, h1, getC_ext h2 k, h3, h4, h5⟩
theorem getC_other {H : Heap} {id id' g : Nat} {ob : Ob} (h : id ≠ id') : getC (H.set id' ob) id g = getC H id g := by
  simp only [getC, List.getElem?_set_ne (Ne.symm h)]
theorem OwnN.set {m : Nat} {H : Heap} {v : V} {l : List V} (h : OwnN m H v l) {id : Nat} (hid : id < m) (ob : Ob) : OwnN m (H.set id ob) v l := by
  rcases h with h | ⟨i, g, c, h1, h2, h3, h4, h5⟩
  · exact .inl h
  · exact .inr ⟨i, g, c, h1, by rw [getC_other (by omega)]; exact h2, h3, h4, h5⟩
/-- a row of a slice that stands below -/
theorem OwnN.trim {m L : Nat} {H : Heap} {v : V} {l : List V} (h : OwnN m H v l) {id g : Nat} {c : List V} (hc : getC H id g = some c) (hid : id < L) (hv : v ∈ c) (fr : List V) : OwnN m (trim L fr H) v l := by
  rcases h with h | ⟨i, g', c', rfl, h2, h3, h4, h5⟩
  · exact .inl h
  · refine .inr ⟨i, g', c', rfl, ?_, h3, h4, h5⟩
    rcases trim_or' L fr H with e | ⟨e, _, hu⟩
    · rw [e]; exact h2
    · exact trim_get h2 (hu _ _ _ hid hc _ _ _ _ _ hv)
theorem getC_sl {H : Heap} {id g : Nat} {c : List V} (h : getC H id g = some c) : Rd H (.sl id g 0 c.length 1) c := by
  have := Rd.sl h (off := 0) (n := c.length) (by omega)
  rwa [List.drop_zero, List.take_length] at this
theorem getC_put {H : Heap} {id g : Nat} {c c' : List V} (h : getC H id g = some c) : getC (H.set id (.cells g c')) id g = some c' := getC_set h _

theorem at_sl {H : Heap} {id g n j : Nat} {c : List V} {w : V} (hc : getC H id g = some c) (hj : j < n) (hw : c[j]? = some w) : xIndexAddr 1 (.sl id g 0 n 1) (.s (.int .i64 j)) = some (.ref id g j) ∧ xLoad H false 1 (.ref id g j) = some w := by
  have h1 : (0 : Int) ≤ j ∧ (j : Int) < n ∧ 1 = 1 := ⟨by omega, by omega, rfl⟩
  have hl := (List.getElem?_eq_some_iff.1 hw).1
  refine ⟨by simp only [xi_sl, h1, and_self, if_true, Int.toNat_natCast, Nat.mul_one, Nat.zero_add], ?_⟩
  have ht : (c.drop j).take 1 = [w] := by
    rw [List.drop_eq_getElem_cons hl, List.take_succ_cons, List.take_zero]
    rw [List.getElem?_eq_getElem hl] at hw
    cases hw; rfl
  simp only [xo_ref, hc, ht, List.length_singleton, if_true, shut_one]
/-! ### Slices of slices -/
def RdRows (H : Heap) (v : V) (R : List (List V)) : Prop := ∃ vs, Rd H v vs ∧ Wide1 v ∧ vs.length = R.length ∧ ∀ (i : Nat) (r : List V), R[i]? = some r → ∃ x, vs[i]? = some x ∧ Rd H x r ∧ Wide1 x
theorem RdRows.ext {H H' : Heap} {v : V} {R : List (List V)} (h : RdRows H v R) (k : Ext H H') : RdRows H' v R := by
  obtain ⟨vs, h1, h2, h3, h4⟩ := h
  refine ⟨vs, h1.ext k, h2, h3, fun i r hr => ?_⟩
  obtain ⟨x, q1, q2, q3⟩ := h4 i r hr
  exact ⟨x, q1, q2.ext k, q3⟩
theorem RdRows.len {H : Heap} {v : V} {R : List (List V)} (h : RdRows H v R) : xLen H .s v = some (.s (.int .i64 R.length)) := by
  obtain ⟨vs, h1, _, h3, _⟩ := h
  rw [h1.len, h3]
theorem RdRows.at {H : Heap} {v : V} {R : List (List V)} (h : RdRows H v R) {i : Nat} {r : List V} (hr : R[i]? = some r) : ∃ a x, xIndexAddr 1 v (.s (.int .i64 i)) = some a ∧ xLoad H false 1 a = some x ∧ Rd H x r ∧ Wide1 x := by
  obtain ⟨vs, h1, h2, _, h4⟩ := h
  obtain ⟨x, q1, q2, q3⟩ := h4 i r hr
  obtain ⟨a, e1, e2⟩ := h1.at' h2 q1
  exact ⟨a, x, e1, e2, q2, q3⟩
/-- A slice of slices of the call's own. -/
def OwnRows (m : Nat) (H : Heap) (v : V) (R : List (List V)) : Prop := ∃ id g vs, v = .sl id g 0 R.length 1 ∧ getC H id g = some vs ∧ m ≤ id ∧ vs.length = R.length ∧ ∀ (i : Nat) (r : List V), R[i]? = some r → ∃ x, vs[i]? = some x ∧ OwnN (id + 1) H x r
theorem OwnRows.rd {m : Nat} {H : Heap} {v : V} {R : List (List V)} (h : OwnRows m H v R) : RdRows H v R := by
  obtain ⟨id, g, vs, rfl, h2, _, h4, h5⟩ := h
  refine ⟨vs, by rw [← h4]; exact getC_sl h2, trivial, h4, fun i r hr => ?_⟩
  obtain ⟨x, q1, q2⟩ := h5 i r hr
  exact ⟨x, q1, q2.rd, q2.wide⟩
theorem OwnRows.ext {m : Nat} {H H' : Heap} {v : V} {R : List (List V)} (h : OwnRows m H v R) (k : Ext H H') : OwnRows m H' v R := by
  obtain ⟨id, g, vs, h1, h2, h3, h4, h5⟩ := h
  refine ⟨id, g, vs, h1, getC_ext h2 k, h3, h4, fun i r hr => ?_⟩
  obtain ⟨x, q1, q2⟩ := h5 i r hr
  exact ⟨x, q1, q2.ext k⟩
end Go.AM
set_option maxRecDepth 100000
namespace Go.Proofs.Ytmnlagcmpgilaaa
open Go.AM
theorem map_get {l : List Int} {j : Nat} (hj : j < l.length) : (l.map iV)[j]? = some (iV (l.getD j 0)) := by
  rw [List.getElem?_map, List.getElem?_eq_getElem hj]
  simp [List.getD, List.getElem?_eq_getElem hj]
/-- slices.Compact of a slice of the call's own -/
theorem compact_own {CT : Nat → Option CFun} (hT : CT k_slices_Compact_int_int = some (.code s_slices_Compact_int_int)) (base m : Nat) (H : Heap) (v : V) (l : List Int) (hv : OwnN m H v (l.map iV)) (hb : base ≤ m) (hn : l.length < 2 ^ 62) :
    ∃ v' H', callW CT (.fn k_slices_Compact_int_int [] []) [v] base H = some (v', H') ∧ OwnN m H' v' ((compactZ l).map iV) ∧ ∀ H0, H0.length ≤ m → Ext H0 H → Ext H0 H' := by
  by_cases h2 : l.length < 2
  · refine ⟨v, H, ?_, ?_, fun _ _ h => h⟩
    · refine callW_fn (c := s_slices_Compact_int_int) hT (by simp [s_slices_Compact_int_int]) ?_
      have h2' : ((l.length : Nat) : Int) < 2 := by omega
      simp only [s_slices_Compact_int_int, a_slices_Compact_int_int,s_slices_Compact_int_int_l0_b,s_slices_Compact_int_int_l1_b, am0,am1,am2,am3,am4,am5,am6,am7,bl,i64,reduceIte,reduceCtorEq,Nat.reduceEqDiff,Nat.reduceLT,Nat.reduceLeDiff,Nat.reduceBEq,Nat.reduceAdd,fillA,splice,Nat.reduceMul,al0,al1,al2,al3,al4,al5,al6,al7,al8,al9,al10,al11,al12,al13,al14,al15,al16,al17,al18,al19,al20,al21,al22,al23,al24,al25,al26,al27,al28,al29,al30,al31,al32,al33,al34, hv.rd.len, List.length_map, h2']
    · match l, h2 with
      | [], _ => exact hv
      | [x], _ => exact hv
  · rcases hv with ⟨h, _⟩ | ⟨id, g, c, rfl, hc, hl, ht, hid⟩
    · have := congrArg List.length h
      simp at this
      subst this
      simp at h2
    · rw [List.length_map] at hl ht ⊢
      have hr : ∀ j, j < l.length → c[j]? = some (iV (l.getD j 0)) := fun j hj => by
        rw [← map_get hj, ← ht, List.getElem?_take_of_lt hj]
      have hlt := getC_lt hc
      match l, h2, hr, hl, ht, hn with
      | [], h2, _, _, _, _ => simp at h2
      | x :: r, h2, hr, hl, ht, hn =>
        have ho := compact_outer (callW CT) base id g (x :: r).length (x :: r) rfl (by omega) hn H hlt c hl hc hr r 1 rfl (Nat.le_refl _) (by simp)
        have e0 : (x :: r).getD (1 - 1) 0 = x := rfl
        rw [e0] at ho
        have c1 : ((1 : Nat) : Int) = 1 := rfl
        rw [c1, List.length_cons] at ho
        have h2' : ¬ ((r.length + 1 : Nat) : Int) < 2 := by simp at h2; omega
        rcases ho with ⟨q, hq⟩ | ⟨c', q, q2, q3⟩
        · refine ⟨.sl id g 0 (x :: r).length 1, H, ?_, ?_, fun _ _ h => h⟩
          · refine callW_fn (c := s_slices_Compact_int_int) hT (by simp [s_slices_Compact_int_int]) ?_
            simp only [s_slices_Compact_int_int, a_slices_Compact_int_int,s_slices_Compact_int_int_l0_b,s_slices_Compact_int_int_l1_b, am0,am1,am2,am3,am4,am5,am6,am7,bl,i64,reduceIte,reduceCtorEq,Nat.reduceEqDiff,Nat.reduceLT,Nat.reduceLeDiff,Nat.reduceBEq,Nat.reduceAdd,fillA,splice,Nat.reduceMul,al0,al1,al2,al3,al4,al5,al6,al7,al8,al9,al10,al11,al12,al13,al14,al15,al16,al17,al18,al19,al20,al21,al22,al23,al24,al25,al26,al27,al28,al29,al30,al31,al32,al33,al34, h2', q]
          · rw [show compactZ (x :: r) = x :: r by simp only [compactZ, hq]]
            exact .inr ⟨id, g, c, by rw [List.length_map], hc, by rw [List.length_map]; exact hl, by rw [List.length_map]; exact ht, hid⟩
        · refine ⟨.sl id g 0 (1 + (chg x r).length) 1, H.set id (.cells g c'), ?_, ?_, fun H0 h0 h => h.set (by omega) _⟩
          · refine callW_fn (c := s_slices_Compact_int_int) hT (by simp [s_slices_Compact_int_int]) ?_
            simp only [s_slices_Compact_int_int, a_slices_Compact_int_int,s_slices_Compact_int_int_l0_b,s_slices_Compact_int_int_l1_b, am0,am1,am2,am3,am4,am5,am6,am7,bl,i64,reduceIte,reduceCtorEq,Nat.reduceEqDiff,Nat.reduceLT,Nat.reduceLeDiff,Nat.reduceBEq,Nat.reduceAdd,fillA,splice,Nat.reduceMul,al0,al1,al2,al3,al4,al5,al6,al7,al8,al9,al10,al11,al12,al13,al14,al15,al16,al17,al18,al19,al20,al21,al22,al23,al24,al25,al26,al27,al28,al29,al30,al31,al32,al33,al34, h2', q]
          · have hcl := chg_len r x
            refine .inr ⟨id, g, c', ?_, getC_put hc, ?_, ?_, hid⟩
            · simp [compactZ]; omega
            · simp [compactZ] at hl ⊢; omega
            · have : ((compactZ (x :: r)).map iV).length = 1 + (chg x r).length := by simp [compactZ]; omega
              rw [this, q3]; rfl
/-- slices.Sort of one -/
theorem sort_own {CT : Nat → Option CFun} (hT : CT k_slices_Sort_int_int = some (.prim sortG)) (base m : Nat) (H : Heap) (v : V) (l : List Int) (hv : OwnN m H v (l.map iV)) (hb : base ≤ m) (hn : l.length < 2 ^ 62) :
    ∃ H', callW CT (.fn k_slices_Sort_int_int [] []) [v] base H = some (und, H') ∧ OwnN m H' v ((sortZ l).map iV) ∧ ∀ H0, H0.length ≤ m → Ext H0 H → Ext H0 H' := by
  have hp : ∀ r, sortG [v] base H = some r → callW CT (.fn k_slices_Sort_int_int [] []) [v] base H = some r := fun r hr => callW_eq (by simp only [evCall, hT, List.nil_append, List.append_nil]; exact hr)
  have hsl : (sortZ l).length = l.length := by rw [sortZ, List.length_mergeSort]
  have hnil : l = [] → sortZ l = [] := fun h => by subst h; simp [sortZ]
  rcases hv with ⟨h, hv⟩ | ⟨id, g, c, rfl, hc, hl, ht, hid⟩
  · have h' : l = [] := by simpa using h
    refine ⟨H, hp _ ?_, .inl ⟨by rw [hnil h']; rfl, hv⟩, fun _ _ h => h⟩
    rcases hv with rfl | rfl <;> rfl
  · rw [List.length_map] at hl ht
    by_cases h0 : l.length = 0
    · have h' : l = [] := List.eq_nil_of_length_eq_zero h0
      refine ⟨H, hp _ ?_, .inr ⟨id, g, c, by simp [hsl], hc, by simp [hsl]; exact hl, by simp [hnil h'], hid⟩, fun _ _ h => h⟩
      simp only [sortG, List.length_map, h0, if_true]
    · refine ⟨H.set id (.cells g (splice c 0 ((sortZ l).map iV))), hp _ ?_, .inr ⟨id, g, _, by simp [hsl], getC_put hc, ?_, ?_, hid⟩, fun H0 h0 h => h.set (by omega) _⟩
      · have h1 : base ≤ id ∧ 1 = 1 ∧ l.length < 4611686018427387904 := ⟨by omega, rfl, hn⟩
        have h3 : 0 + l.length ≤ c.length := by omega
        simp only [sortG, List.length_map, h0, if_false, h1, and_self, if_true, hc, List.drop_zero, ht, intsOf_map, h3]
      · simp [splice, hsl]
      · simp [splice, hsl]
end Go.Proofs.Ytmnlagcmpgilaaa
set_option maxRecDepth 100000
namespace Go.Proofs.Ytmnlagcmpgilaaa
open Go.AM
/-- A new slice that holds just this. -/
def New (m : Nat) (H : Heap) (v : V) (l : List Int) : Prop := (l = [] ∧ (v = nilS ∨ v = .esl)) ∨ ∃ id, v = .sl id 0 0 l.length 1 ∧ getC H id 0 = some (l.map iV) ∧ m ≤ id
def pV (p : Int → Bool) : V → Bool
  | .s (.int _ k) => p k
  | _ => false
theorem filter_iV (p : Int → Bool) (l : List Int) : (l.map iV).filter (fun x => !pV p x) = (l.filter fun k => !p k).map iV := by
  rw [List.filter_map]; rfl
theorem delete_own {CT : Nat → Option CFun} (hT : CT k_slices_DeleteFunc_int_int = some (.code s_slices_DeleteFunc_int_int)) (hT2 : CT k_slices_IndexFunc_int_int = some (.code s_slices_IndexFunc_int_int))
    (base m : Nat) (H : Heap) (f v : V) (l : List Int) (hv : New m H v l) (hb : base ≤ m) (hn : l.length < 2 ^ 62) (p : Int → Bool)
    (hp : ∀ H' k, (∀ i, i < m → H'[i]? = H[i]?) → callW CT f [iV k] base H' = some (.s (.bool (p k)), H')) :
    ∃ v' H', callW CT (.fn k_slices_DeleteFunc_int_int [] []) [v, f] base H = some (v', H') ∧ OwnN m H' v' ((l.filter fun k => !p k).map iV) ∧ ∀ H0, H0.length ≤ m → Ext H0 H → Ext H0 H' := by
  rcases hv with ⟨rfl, hv⟩ | ⟨id, rfl, hc, hid⟩
  · have hrd : Rd H v [] := by rcases hv with rfl | rfl <;> first | exact Rd.nil H | exact Rd.esl H
    have hw : Wide1 v := by rcases hv with rfl | rfl <;> trivial
    have hix := index_fun hT2 base H v f [] hrd hw (by simp) (fun _ => false) (fun x hx => absurd hx List.not_mem_nil)
    refine ⟨v, H, ?_, .inl ⟨rfl, hv⟩, fun _ _ h => h⟩
    refine callW_fn (c := s_slices_DeleteFunc_int_int) hT (by simp [s_slices_DeleteFunc_int_int]) ?_
    simp only [idx] at hix
    simp only [s_slices_DeleteFunc_int_int, a_slices_DeleteFunc_int_int,s_slices_DeleteFunc_int_int_l0_b, am0,am1,am2,am3,am4,am5,am6,am7,bl,i64,reduceIte,reduceCtorEq,Nat.reduceEqDiff,Nat.reduceLT,Nat.reduceLeDiff,Nat.reduceBEq,Nat.reduceAdd,fillA,splice,Nat.reduceMul,al0,al1,al2,al3,al4,al5,al6,al7,al8,al9,al10,al11,al12,al13,al14,al15,al16,al17,al18,al19,al20,al21,al22,al23,al24,al25,al26,al27,al28,al29,al30,al31,al32,al33,al34, hix, idxV]
  · obtain ⟨c', q1, q2, q3⟩ := delete_fun hT hT2 base H f id 0 l.length (l.map iV) hc (by simp) (fun x => ∃ k, x = iV k) (by rintro _ ⟨k, rfl⟩; rfl) (by intro x hx; obtain ⟨k, _, rfl⟩ := List.mem_map.1 hx; exact ⟨k, rfl⟩) (by omega) hn (pV p)
      (by
        rintro _ ⟨k, rfl⟩ c _
        exact hp _ k fun i hi => by rw [List.getElem?_set_ne (by omega)])
    rw [filter_iV] at q1 q3
    have hfl := List.length_filter_le (fun k => !p k) l
    exact ⟨_, _, q1, .inr ⟨id, 0, c', rfl, getC_put hc, by rw [List.length_map]; omega, q3, hid⟩, fun H0 h0 h => h.set (by omega) _⟩

def outR (n : Int) (k : Int) : Bool := decide (k < 0) || decide (k ≥ n)
def normR (n : Int) (r : List Int) : List Int := compactZ (sortZ (r.filter fun k => !outR n k))
def normG (G : List (List Int)) : List (List Int) := G.map (normR G.length)
def rowsV (G : List (List Int)) : List (List V) := G.map (·.map iV)
theorem rowsV_get {G : List (List Int)} {i : Nat} {r : List Int} (h : G[i]? = some r) : (rowsV G)[i]? = some (r.map iV) := by rw [rowsV, List.getElem?_map, h]; rfl
theorem rowsV_len (G : List (List Int)) : (rowsV G).length = G.length := by simp [rowsV]
theorem norm_loop {CT : Nat → Option CFun} (hC : CT k_slices_Clone_int_int = some (.code s_slices_Clone_int_int)) (hD : CT k_slices_DeleteFunc_int_int = some (.code s_slices_DeleteFunc_int_int)) (hI : CT k_slices_IndexFunc_int_int = some (.code s_slices_IndexFunc_int_int)) (hS : CT k_slices_Sort_int_int = some (.prim sortG)) (hK : CT k_slices_Compact_int_int = some (.code s_slices_Compact_int_int)) (hN : CT k_graph_Norm_1 = some (.code s_graph_Norm_1))
    (base : Nat) (v : V) (G : List (List Int)) (bx id L : Nat) (H0 : Heap) (hv : RdRows H0 v (rowsV G)) (hb : base ≤ H0.length) (hn : G.length < 2 ^ 40) (hr : ∀ r ∈ G, r.length < 2 ^ 40) (h1 : H0.length ≤ bx) (h2 : bx < id) (h3 : id < L) :
    ∀ (k i : Nat) (H : Heap) (vs : List V), i + k = G.length → Ext H0 H → L ≤ H.length → getC H bx 0 = some [v] → getC H id 0 = some vs → vs.length = G.length → (∀ (j : Nat) (r : List Int), j < i → G[j]? = some r → ∃ x, vs[j]? = some x ∧ OwnN (id + 1) H x ((normR G.length r).map iV)) →
    ∃ H' vs', itW (evC (callW CT) itW base s_graph_Norm_l0) [] L (frOf 30 [(1, .ref bx 0 0), (3, .sl id 0 0 G.length 1), (10, v), (11, .s (.int .i64 G.length)), (12, .s (.int .i64 i))]) H =
      some (.ext 0, frOf 30 [(1, .ref bx 0 0), (3, .sl id 0 0 G.length 1), (10, v), (11, .s (.int .i64 G.length)), (12, .s (.int .i64 G.length)), (13, .s (.bool false))], H') ∧
      Ext H0 H' ∧ getC H' id 0 = some vs' ∧ vs'.length = G.length ∧ (∀ (j : Nat) (r : List Int), G[j]? = some r → ∃ x, vs'[j]? = some x ∧ OwnN (id + 1) H' x ((normR G.length r).map iV)) := by
  intro k
  induction k with
  | zero =>
    intro i H vs hi he hL hbx hid hlen hrows
    obtain rfl : i = G.length := by omega
    refine ⟨trim L (frOf 30 [(1, .ref bx 0 0), (3, .sl id 0 0 G.length 1), (10, v), (11, .s (.int .i64 G.length)), (12, .s (.int .i64 G.length)), (13, .s (.bool false))]) H, vs, ?_, he.trim (by omega) _, trim_get hid h3, hlen, fun j r hj => ?_⟩
    · rw [itW_step]
      simp only [a_graph_Norm,s_graph_Norm_l0_b, am0,am1,am2,am3,am4,am5,am6,am7,bl,i64,reduceIte,reduceCtorEq,Nat.reduceEqDiff,Nat.reduceLT,Nat.reduceLeDiff,Nat.reduceBEq,Nat.reduceAdd,fillA,splice,Nat.reduceMul,al0,al1,al2,al3,al4,al5,al6,al7,al8,al9,al10,al11,al12,al13,al14,al15,al16,al17,al18,al19,al20,al21,al22,al23,al24,al25,al26,al27,al28,al29,al30,al31,al32,al33,al34, Int.lt_irrefl]
    · obtain ⟨x, q1, q2⟩ := hrows j r (List.getElem?_eq_some_iff.1 hj).1 hj
      exact ⟨x, q1, q2.trim hid h3 (List.mem_of_getElem? q1) _⟩
  | succ k ih =>
    intro i H vs hi he hL hbx hid hlen hrows
    have hig : G[i]? = some G[i] := List.getElem?_eq_getElem (by omega)
    have hrl := hr _ (List.getElem_mem (by omega : i < G.length))
    have hH0 := he.le
    obtain ⟨a, x, ha1, ha2, hx, hxw⟩ := (hv.ext he).at (rowsV_get hig)
    obtain ⟨r1, H1, q1, e1, o1⟩ := clone_fun hC base H x G[i] hx (by omega)
    have hnew : New H.length H1 r1 G[i] := o1
    have hiH : id < H.length := getC_lt hid
    obtain ⟨v2, H2, q2, o2, e2⟩ := delete_own hD hI base H.length H1 (.fn k_graph_Norm_1 [] [.ref bx 0 0]) r1 G[i] hnew (by omega) (by omega) (outR G.length) (by
      intro H' k hk
      have hk' : ∀ i, i < H.length → H'[i]? = H[i]? := fun i hi => by rw [hk i hi, e1.get hi]
      have hbx' : getC H' bx 0 = some [v] := by rw [← hbx]; simp only [getC, hk' bx (by omega)]
      have heH : Ext H0 H' := Ext.of_get (by
        refine Nat.le_of_not_lt fun hlt => ?_
        have h1 := hk' H'.length (by omega)
        rw [List.getElem?_eq_none (Nat.le_refl _), List.getElem?_eq_getElem (by omega)] at h1
        cases h1) (fun i hi => by rw [hk' i (by omega), he.get hi])
      exact norm1_fun hN base H' bx v hbx' G.length (by rw [← rowsV_len G]; exact (hv.ext heH).len) k)
    have e2' := e2 H (Nat.le_refl _) e1
    have hfl := List.length_filter_le (fun k => !outR G.length k) G[i]
    obtain ⟨H3, q3, o3, e3⟩ := sort_own hS base H.length H2 v2 _ o2 (by omega) (by omega)
    have e3' := e3 H (Nat.le_refl _) e2'
    have hsl : (sortZ (G[i].filter fun k => !outR G.length k)).length = (G[i].filter fun k => !outR G.length k).length := by rw [sortZ, List.length_mergeSort]
    obtain ⟨v4, H4, q4, o4, e4⟩ := compact_own hK base H.length H3 v2 _ o3 (by omega) (by omega)
    have e4' := e4 H (Nat.le_refl _) e3'
    have hid4 := getC_ext hid e4'
    have hst := storeV_at (v := v4) hid4 (by omega) o4.one (off := i) (base := base) (by omega)
    have hw := wrap_pos (n := i) (by omega)
    have hlt' : (i : Int) < (G.length : Int) := by omega
    have hid5 := getC_put (c' := vs.set i v4) hid4
    obtain ⟨H', vs', p1, p2, p3, p4, p5⟩ := ih (i + 1) (trim L (frOf 30 [(1, .ref bx 0 0), (3, .sl id 0 0 G.length 1), (10, v), (11, .s (.int .i64 G.length)), (12, .s (.int .i64 ((i + 1 : Nat) : Int)))]) (H4.set id (.cells 0 (vs.set i v4)))) (vs.set i v4) (by omega) (((he.trans e4').set (by omega) _).trim (by omega) _) (trim_le (by rw [List.length_set]; have := e4'.le; omega)) (trim_get (by rw [getC_other (by omega)]; exact getC_ext hbx e4') (by omega)) (trim_get hid5 h3) (by rw [List.length_set]; exact hlen) (by
      intro j r hj hr
      by_cases hji : j = i
      · subst hji
        rw [hig] at hr
        cases hr
        have hg : (vs.set j v4)[j]? = some v4 := by rw [List.getElem?_set_self (by omega)]
        exact ⟨v4, hg, ((o4.mono (by omega : id + 1 ≤ H.length)).set (by omega) _).trim hid5 h3 (List.mem_of_getElem? hg) _⟩
      · obtain ⟨x, q1, q2⟩ := hrows j r (by omega) hr
        have hg : (vs.set i v4)[j]? = some x := by rw [List.getElem?_set_ne (by omega)]; exact q1
        exact ⟨x, hg, ((q2.ext e4').set (by omega) _).trim hid5 h3 (List.mem_of_getElem? hg) _⟩)
    refine ⟨H', vs', ?_, p2, p3, p4, p5⟩
    rw [itW_step]
    simp only [a_graph_Norm,s_graph_Norm_l0_b, am0,am1,am2,am3,am4,am5,am6,am7,bl,i64,reduceIte,reduceCtorEq,Nat.reduceEqDiff,Nat.reduceLT,Nat.reduceLeDiff,Nat.reduceBEq,Nat.reduceAdd,fillA,splice,Nat.reduceMul,al0,al1,al2,al3,al4,al5,al6,al7,al8,al9,al10,al11,al12,al13,al14,al15,al16,al17,al18,al19,al20,al21,al22,al23,al24,al25,al26,al27,al28,al29,al30,al31,al32,al33,al34, hlt', ha1, ha2, q1, q2, q3, q4, hst, hw, xsub_mkFn]
    exact p1
theorem norm_fun {CT : Nat → Option CFun} (hT : CT k_graph_Norm = some (.code s_graph_Norm)) (hC : CT k_slices_Clone_int_int = some (.code s_slices_Clone_int_int)) (hD : CT k_slices_DeleteFunc_int_int = some (.code s_slices_DeleteFunc_int_int)) (hI : CT k_slices_IndexFunc_int_int = some (.code s_slices_IndexFunc_int_int)) (hS : CT k_slices_Sort_int_int = some (.prim sortG)) (hK : CT k_slices_Compact_int_int = some (.code s_slices_Compact_int_int)) (hN : CT k_graph_Norm_1 = some (.code s_graph_Norm_1))
    (base : Nat) (H : Heap) (v : V) (G : List (List Int)) (hv : RdRows H v (rowsV G)) (hb : base ≤ H.length) (hn : G.length < 2 ^ 40) (hr : ∀ r ∈ G, r.length < 2 ^ 40) :
    ∃ v' H', callW CT (.fn k_graph_Norm [] []) [v] base H = some (v', H') ∧ Ext H H' ∧ OwnRows H.length H' v' (rowsV (normG G)) := by
  have hone : v.one = true := by obtain ⟨vs, h, _⟩ := hv; exact h.one
  have hlen : xLen (H ++ [.cells 0 [v]]) .s v = some (.s (.int .i64 G.length)) := by rw [← rowsV_len G]; exact (hv.ext (Ext.app _ _)).len
  have hlen2 : xLen (H ++ [.cells 0 [v]] ++ [.cells 0 (List.replicate G.length [nilS]).flatten]) .s v = some (.s (.int .i64 G.length)) := by rw [← rowsV_len G]; exact ((hv.ext (Ext.app _ _)).ext (Ext.app _ _)).len
  have hmk := make_n (H := H ++ [.cells 0 [v]]) (zero := [nilS]) (sz := 1) (bytes := 24) (k := .i64) (k' := .i64) (n := G.length) (by omega)
  obtain ⟨H', vs, p1, p2, p3, p4, p5⟩ := norm_loop hC hD hI hS hK hN base v G H.length (H.length + 1) (H.length + 2) H hv hb hn hr (Nat.le_refl _) (by omega) (by omega) G.length 0 (H ++ [.cells 0 [v]] ++ [.cells 0 (List.replicate G.length [nilS]).flatten]) (List.replicate G.length nilS) (by omega) ⟨[.cells 0 [v], .cells 0 (List.replicate G.length [nilS]).flatten], by simp⟩ (by simp) (by simp [getC]) (by rw [flat_one]; simp [getC]) (by simp) (fun j r hj => by omega)
  rw [cast0] at p1
  simp only [nilS] at hmk p1 hlen2
  refine ⟨.sl (H.length + 1) 0 0 G.length 1, H', callW_fnA (c := s_graph_Norm) (k := 1) hT rfl (by decide) s_graph_Norm_first ?_, p2, H.length + 1, 0, vs, by rw [rowsV_len]; simp [normG], p3, by omega, by rw [rowsV_len]; simp [normG, p4], ?_⟩
  · simp only [s_graph_Norm, a_graph_Norm,s_graph_Norm_l0_b, am0,am1,am2,am3,am4,am5,am6,am7,bl,i64,reduceIte,reduceCtorEq,Nat.reduceEqDiff,Nat.reduceLT,Nat.reduceLeDiff,Nat.reduceBEq,Nat.reduceAdd,fillA,splice,Nat.reduceMul,al0,al1,al2,al3,al4,al5,al6,al7,al8,al9,al10,al11,al12,al13,al14,al15,al16,al17,al18,al19,al20,al21,al22,al23,al24,al25,al26,al27,al28,al29,al30,al31,al32,al33,al34, cells_of_one hone, hone, hlen, hlen2, op_mkSl, hmk, p1]
  · intro j r hj
    rw [rowsV, normG, List.map_map, List.getElem?_map, Option.map_eq_some_iff] at hj
    obtain ⟨g, hg, rfl⟩ := hj
    exact p5 j g hg
end Go.Proofs.Ytmnlagcmpgilaaa
/-
  A slice of slices to which is appended row by row.
-/
namespace Go.AM
def Bag (m : Nat) (H : Heap) (vs : List V) (R : List (List V)) : Prop :=
  vs.length = R.length ∧ (∀ (j : Nat) (r : List V), R[j]? = some r → ∃ x, vs[j]? = some x ∧ ((r = [] ∧ x = nilS) ∨ ∃ id g, x = .sl id g 0 r.length 1 ∧ getC H id g = some r ∧ m ≤ id)) ∧
  ∀ (j k id g n id' g' n' : Nat), j ≠ k → vs[j]? = some (.sl id g 0 n 1) → vs[k]? = some (.sl id' g' 0 n' 1) → id ≠ id'
theorem Bag.start (m : Nat) (H : Heap) (n : Nat) : Bag m H (List.replicate n nilS) (List.replicate n []) := by
  refine ⟨by simp, fun j r hr => ?_, fun j k id g n id' g' n' _ h => ?_⟩
  · rw [List.getElem?_replicate] at hr
    split at hr
    · rename_i hj
      cases hr
      exact ⟨nilS, by rw [List.getElem?_replicate, if_pos hj], .inl ⟨rfl, rfl⟩⟩
    · cases hr
  · rw [List.getElem?_replicate] at h
    split at h
    · cases h
    · cases h
theorem Bag.get {m : Nat} {H : Heap} {vs : List V} {R : List (List V)} (h : Bag m H vs R) {j : Nat} {r : List V} (hr : R[j]? = some r) : ∃ x, vs[j]? = some x ∧ Rd H x r ∧ Wide1 x := by
  obtain ⟨x, h1, h2⟩ := h.2.1 j r hr
  refine ⟨x, h1, ?_⟩
  rcases h2 with ⟨rfl, rfl⟩ | ⟨id, g, rfl, hc, _⟩
  · exact ⟨Rd.nil H, trivial⟩
  · exact ⟨getC_sl hc, trivial⟩
theorem Bag.rows {m : Nat} {H : Heap} {vs : List V} {R : List (List V)} (h : Bag m H vs R) {o g : Nat} (hc : getC H o g = some vs) : RdRows H (.sl o g 0 R.length 1) R := by
  refine ⟨vs, by rw [← h.1]; exact getC_sl hc, trivial, h.1, fun i r hr => h.get hr⟩
theorem Bag.keep {m : Nat} {H H' : Heap} {vs : List V} {R : List (List V)} (h : Bag m H vs R) (hk : ∀ id g n c, V.sl id g 0 n 1 ∈ vs → m ≤ id → getC H id g = some c → getC H' id g = some c) : Bag m H' vs R := by
  refine ⟨h.1, fun j r hr => ?_, h.2.2⟩
  obtain ⟨x, h1, h2⟩ := h.2.1 j r hr
  refine ⟨x, h1, ?_⟩
  rcases h2 with h2 | ⟨id, g, rfl, hc, hm⟩
  · exact .inl h2
  · exact .inr ⟨id, g, rfl, hk id g _ _ (List.mem_of_getElem? h1) hm hc, hm⟩
theorem Bag.trim {m L o : Nat} {H : Heap} {vs : List V} {R : List (List V)} (h : Bag m H vs R) (hc : getC H o 0 = some vs) (ho : o < L) (fr : List V) : Bag m (trim L fr H) vs R := by
  refine h.keep fun id g n c hv hm hg => ?_
  rcases trim_or' L fr H with e | ⟨_, _, hu⟩
  · rw [e]; exact hg
  · exact trim_get hg (hu _ _ _ ho hc _ _ _ _ _ hv)
theorem Bag.ext {m : Nat} {H H' : Heap} {vs : List V} {R : List (List V)} (h : Bag m H vs R) (k : Ext H H') : Bag m H' vs R := h.keep fun _ _ _ _ _ _ hg => getC_ext hg k
theorem Ext.set_both {A H : Heap} (h : Ext A H) {o : Nat} (ho : o < A.length) (ob : Ob) : Ext (A.set o ob) (H.set o ob) :=
  Ext.of_get (by rw [List.length_set, List.length_set]; exact h.le) fun i hi => by
    rw [List.length_set] at hi
    by_cases he : o = i
    · subst he
      rw [List.getElem?_set_self ho, List.getElem?_set_self (by have := h.le; omega)]
    · rw [List.getElem?_set_ne he, List.getElem?_set_ne he, h.get hi]
/-- 'out[k] = append(out[k], x)' -/
theorem Bag.append {m o base bytes k : Nat} {H : Heap} {vs : List V} {R : List (List V)} {r : List V} {x : V} (h : Bag m H vs R) (hc : getC H o 0 = some vs) (ho : o < m) (hb : base ≤ m) (hm : m ≤ H.length) (hr : R[k]? = some r) (hx : x.one = true) (hs : (r.length + 1) * bytes ≤ 2 ^ 47) :
    ∃ w v' H', vs[k]? = some w ∧ appendV (H ++ [.cells 0 [x]]) base 1 bytes w (.sl H.length 0 0 1 1) = some (v', H') ∧ v'.one = true ∧ getC H' o 0 = some vs ∧ H.length ≤ H'.length ∧
      Bag m (H'.set o (.cells 0 (vs.set k v'))) (vs.set k v') (R.set k (r ++ [x])) ∧ ∀ H0, H0.length ≤ m → Ext H0 H → Ext H0 H' := by
  obtain ⟨w, hw, hwr⟩ := h.2.1 k r hr
  have hkl : k < vs.length := (List.getElem?_eq_some_iff.1 hw).1
  have hx' : [x].all V.one = true := by simp [hx]
  have hol := getC_lt hc
  have fin : ∀ (id g : Nat) (H' : Heap), (∀ j g' n, j ≠ k → vs[j]? ≠ some (.sl id g' 0 n 1)) → m ≤ id → getC H' id g = some (r ++ [x]) → (∀ i, i ≠ id → i < H.length → H'[i]? = H[i]?) →
      Bag m (H'.set o (.cells 0 (vs.set k (.sl id g 0 (r.length + 1) 1)))) (vs.set k (.sl id g 0 (r.length + 1) 1)) (R.set k (r ++ [x])) := by
    intro id g H' hne hid hg hsame
    refine ⟨by rw [List.length_set, List.length_set]; exact h.1, fun j r' hr' => ?_, fun i j a b c a' b' c' hij hi hj => ?_⟩
    · by_cases hjk : k = j
      · subst hjk
        rw [List.getElem?_set_self (by rw [← h.1]; exact hkl)] at hr'
        cases hr'
        refine ⟨_, List.getElem?_set_self hkl, .inr ⟨id, g, by simp, ?_, hid⟩⟩
        rw [getC_other (by omega)]; exact hg
      · rw [List.getElem?_set_ne hjk] at hr'
        obtain ⟨y, h1, h2⟩ := h.2.1 j r' hr'
        refine ⟨y, by rw [List.getElem?_set_ne hjk]; exact h1, ?_⟩
        rcases h2 with h2 | ⟨id2, g2, rfl, hc2, hm2⟩
        · exact .inl h2
        · refine .inr ⟨id2, g2, rfl, ?_, hm2⟩
          have hd : id2 ≠ id := by
            intro e
            subst e
            exact hne j _ _ (Ne.symm hjk) h1
          rw [getC_other (by omega)]
          have := getC_lt hc2
          rw [← hc2]
          simp only [getC, hsame id2 hd this]
    · by_cases hik : k = i
      · subst hik
        rw [List.getElem?_set_self hkl] at hi
        rw [List.getElem?_set_ne hij] at hj
        cases hi
        intro e
        subst e
        exact hne j _ _ (Ne.symm hij) hj
      · rw [List.getElem?_set_ne hik] at hi
        by_cases hjk : k = j
        · subst hjk
          rw [List.getElem?_set_self hkl] at hj
          cases hj
          intro e
          subst e
          exact hne i _ _ hij hi
        · rw [List.getElem?_set_ne hjk] at hj
          exact h.2.2 i j a b c a' b' c' hij hi hj
  rcases hwr with ⟨rfl, rfl⟩ | ⟨id, g, rfl, hg, hid⟩
  · have hs' : 1 * bytes ≤ 2 ^ 47 := by simpa using hs
    refine ⟨nilS, .sl (H.length + 1) 0 0 1 1, H ++ [.cells 0 [x]] ++ [.cells 0 [x]], hw, ?_, rfl, getC_app (getC_app hc), by simp, ?_, fun H0 _ he => he.trans ⟨[.cells 0 [x], .cells 0 [x]], by simp⟩⟩
    · simp only [appendV, elems_new, hx', if_true, nilS, Nat.one_ne_zero, if_false, hs', List.length_append, List.length_cons, List.length_nil]
    · refine fin (H.length + 1) 0 _ (fun j g' n hj e => ?_) (by omega) ?_ (fun i _ hi => by simp [List.getElem?_append_left hi])
      · cases hR : R[j]? with
        | none =>
          have h1 := (List.getElem?_eq_some_iff.1 e).1
          have h2 := List.getElem?_eq_none_iff.1 hR
          rw [h.1] at h1
          omega
        | some r' =>
          obtain ⟨y, h1, h2⟩ := h.2.1 j r' hR
          rw [e] at h1
          cases h1
          rcases h2 with ⟨_, h2⟩ | ⟨id2, g2, h2, hc2, _⟩
          · cases h2
          · cases h2
            have := getC_lt hc2
            omega
      · have := getC_new (H ++ [Ob.cells 0 [x]]) 0 [x]
        simpa using this
  · have hlt := getC_lt hg
    have hg' := getC_app hg (G := [Ob.cells 0 [x]])
    have hbi : base ≤ id := by omega
    have hne : id ≠ o := by omega
    refine ⟨_, .sl id (g + 1) 0 (r.length + 1) 1, (H ++ [Ob.cells 0 [x]]).set id (.cells (g + 1) (r ++ [x])), hw, ?_, rfl, ?_, by simp, ?_, fun H0 h0 he => (he.trans (Ext.app _ _)).set (by omega) _⟩
    · have h2 : 0 + r.length ≤ r.length := by omega
      simp only [appendV, elems_new, hx', if_true, true_and, hbi, hg', h2, Nat.one_ne_zero, if_false, hs, List.drop_zero, Nat.mul_one, List.take_length]
    · rw [getC_other (Ne.symm hne)]; exact getC_app hc
    · refine fin id (g + 1) _ (fun j g' n hj e => ?_) hid (getC_set hg' _) (fun i hi hl => by rw [List.getElem?_set_ne (Ne.symm hi), List.getElem?_append_left hl])
      exact h.2.2 j k _ _ _ _ _ _ hj e hw rfl
theorem OwnRows.set {m : Nat} {H : Heap} {v : V} {R : List (List V)} (h : OwnRows m H v R) {o : Nat} (ho : o < m) (ob : Ob) : OwnRows m (H.set o ob) v R := by
  obtain ⟨id, g, vs, h1, h2, h3, h4, h5⟩ := h
  refine ⟨id, g, vs, h1, by rw [getC_other (by omega)]; exact h2, h3, h4, fun i r hr => ?_⟩
  obtain ⟨x, q1, q2⟩ := h5 i r hr
  exact ⟨x, q1, q2.set (by omega) _⟩
/-! ### Parts of slices -/
theorem Rd.slice {H : Heap} {v : V} {l : List V} (h : Rd H v l) (hw : Wide1 v) {lo hi : Option V} {a b : Nat} (hlo : bndV 0 lo = some (a : Int)) (hhi : bndV l.length hi = some (b : Int)) (hab : a ≤ b) (hb : b ≤ l.length) :
    ∃ w, xSlice 1 v lo hi = some w ∧ Rd H w ((l.drop a).take (b - a)) ∧ Wide1 w := by
  have i1 : (0 : Int) ≤ a := by omega
  have i2 : (a : Int) ≤ b := by omega
  have i3 : ((b : Int) - (a : Int)).toNat = b - a := by omega
  rcases h.cases with ⟨rfl, hv⟩ | ⟨es, rfl, rfl, he⟩ | ⟨id, g, off, n, c, rfl, hc, rfl, hn⟩
  · have ha : a = 0 := by simp at hb; omega
    have hb0 : b = 0 := by simpa using hb
    subst ha hb0
    rcases hv with rfl | rfl
    · refine ⟨nilS, ?_, Rd.nil H, trivial⟩
      simp only [List.length_nil] at hhi
      simp only [xslice_nil, hlo, hhi, cutNil_some, cast0, and_self, if_true]
    · refine ⟨.esl, ?_, Rd.esl H, trivial⟩
      simp only [List.length_nil] at hhi
      simp only [xslice_esl, hlo, hhi, cutNil_some, cast0, and_self, if_true]
  · have h1 : ∀ e ∈ es, e.length = 1 := hw
    have hmap : ∀ es : List (List V), (∀ e ∈ es, e.length = 1) → es = es.flatten.map fun x => [x] := by
      intro es
      induction es with
      | nil => intro _; rfl
      | cons e es ih =>
        intro h
        have he := h e List.mem_cons_self
        match e, he with
        | [y], _ =>
          show [y] :: es = (y :: es.flatten).map _
          rw [List.map_cons, ← ih fun e he => h e (List.mem_cons_of_mem _ he)]
    have hm := hmap es h1
    refine ⟨.psl ((es.drop a).take (b - a)) 1, ?_, ?_, fun e he => h1 e (List.mem_of_mem_drop (List.mem_of_mem_take he))⟩
    · rw [← he] at hhi
      have i4 : (b : Int) ≤ es.length := by omega
      simp only [xslice_psl, hlo, hhi, cutPsl_some, i1, i2, i3, i4, and_self, if_true, Int.toNat_natCast]
    · have := Rd.psl H ((es.flatten.drop a).take (b - a))
      rw [List.map_take, List.map_drop, ← hm] at this
      exact this
  · refine ⟨.sl id g (off + a) (b - a) 1, ?_, ?_, trivial⟩
    · rw [← hn] at hhi
      have i4 : (b : Int) ≤ n := by omega
      simp only [xslice_sl, hlo, hhi, cutSl_some, i1, i2, i3, i4, and_self, if_true, Int.toNat_natCast, Nat.mul_one]
    · by_cases hn0 : n = 0
      · subst hn0
        have hb0 : b = 0 := by simpa using hb
        have ha0 : a = 0 := by omega
        subst hb0 ha0
        simpa using h
      have hl : off + b ≤ c.length := by
        simp at hb hn
        omega
      have := Rd.sl hc (off := off + a) (n := b - a) (by omega)
      rw [List.drop_take, List.take_take, List.drop_drop, Nat.min_eq_left (by omega)]
      exact this
theorem bnd_lo0 : bndV 0 none = some ((0 : Nat) : Int) := rfl
/-! ### Rows appended to a slice of slices -/
def AccR (H0 H : Heap) (v : V) (R : List (List V)) : Prop := ∃ vs, Acc H0 H v vs ∧ vs.length = R.length ∧ ∀ (j : Nat) (r : List V), R[j]? = some r → ∃ x, vs[j]? = some x ∧ OwnN H0.length H x r ∧ ∀ id g n id' g' n', v = .sl id g 0 n 1 → x = .sl id' g' 0 n' 1 → id ≠ id'
theorem AccR.start (H : Heap) : AccR H H nilS [] := ⟨[], Acc.start H, rfl, fun j r h => by simp at h⟩
theorem AccR.ext0 {H0 H : Heap} {v : V} {R : List (List V)} (h : AccR H0 H v R) : Ext H0 H := by obtain ⟨vs, h, _⟩ := h; exact h.1
theorem AccR.rows {H0 H : Heap} {v : V} {R : List (List V)} (h : AccR H0 H v R) : RdRows H v R := by
  obtain ⟨vs, h1, h2, h3⟩ := h
  refine ⟨vs, h1.rd, h1.wide, h2, fun j r hr => ?_⟩
  obtain ⟨x, q1, q2, _⟩ := h3 j r hr
  exact ⟨x, q1, q2.rd, q2.wide⟩
theorem AccR.ext {H0 H H' : Heap} {v : V} {R : List (List V)} (h : AccR H0 H v R) (k : Ext H H') : AccR H0 H' v R := by
  obtain ⟨vs, h1, h2, h3⟩ := h
  refine ⟨vs, ⟨h1.1.trans k, ?_⟩, h2, fun j r hr => ?_⟩
  · rcases h1.2 with h | ⟨id, g, a, b, c⟩
    · exact .inl h
    · exact .inr ⟨id, g, a, getC_ext b k, c⟩
  · obtain ⟨x, q1, q2, q3⟩ := h3 j r hr
    exact ⟨x, q1, q2.ext k, q3⟩
theorem AccR.trim {H0 H : Heap} {v : V} {R : List (List V)} (h : AccR H0 H v R) {m : Nat} (hm : H0.length ≤ m) {fr : List V} (hv : v ∈ fr) : AccR H0 (trim m fr H) v R := by
  obtain ⟨vs, h1, h2, h3⟩ := h
  refine ⟨vs, h1.trim hm hv, h2, fun j r hr => ?_⟩
  obtain ⟨x, q1, q2, q3⟩ := h3 j r hr
  refine ⟨x, q1, ?_, q3⟩
  rcases h1.2 with ⟨rfl, _⟩ | ⟨id, g, rfl, hc, hid⟩
  · simp at q1
  · rcases trim_or m fr H with e | ⟨e, hu⟩
    · rw [e]; exact q2
    · have := hu _ hv
      simp only [idsUnder, decide_eq_true_eq] at this
      exact q2.trim hc this (List.mem_of_getElem? q1) fr
/-- 'append(v, x)', x a row -/
theorem AccR.append {H0 H : Heap} {v : V} {R : List (List V)} (h : AccR H0 H v R) {base bytes : Nat} (hb : base ≤ H0.length) {x : V} {r : List V} (hx : OwnN H0.length H x r) (hxv : ∀ id g n id' g' n', v = .sl id g 0 n 1 → x = .sl id' g' 0 n' 1 → id ≠ id') (hs : (R.length + 1) * bytes ≤ 2 ^ 47) :
    ∃ v' H', appendV (H ++ [.cells 0 [x]]) base 1 bytes v (.sl H.length 0 0 1 1) = some (v', H') ∧ AccR H0 H' v' (R ++ [r]) ∧ v'.one = true := by
  obtain ⟨vs, h1, h2, h3⟩ := h
  have hx1 := hx.one
  have hx' : [x].all V.one = true := by simp [hx1]
  have rows : ∀ (v' : V) (H' : Heap), (∀ y q, (y = x ∨ y ∈ vs) → OwnN H0.length H y q → (∀ id g n id' g' n', v = .sl id g 0 n 1 → y = .sl id' g' 0 n' 1 → id ≠ id') → OwnN H0.length H' y q ∧ ∀ id g n id' g' n', v' = .sl id g 0 n 1 → y = .sl id' g' 0 n' 1 → id ≠ id') →
      ∀ (j : Nat) (q : List V), (R ++ [r])[j]? = some q → ∃ y, (vs ++ [x])[j]? = some y ∧ OwnN H0.length H' y q ∧ ∀ id g n id' g' n', v' = .sl id g 0 n 1 → y = .sl id' g' 0 n' 1 → id ≠ id' := by
    intro v' H' hk j q hq
    by_cases hj : j < R.length
    · rw [List.getElem?_append_left hj] at hq
      obtain ⟨y, q1, q2, q3⟩ := h3 j q hq
      exact ⟨y, by rw [List.getElem?_append_left (by omega)]; exact q1, hk y q (.inr (List.mem_of_getElem? q1)) q2 q3⟩
    · rw [List.getElem?_append_right (by omega)] at hq
      have hj0 : j - R.length = 0 := by
        have := (List.getElem?_eq_some_iff.1 hq).1
        simp at this
        omega
      rw [hj0] at hq
      cases hq
      refine ⟨x, by rw [List.getElem?_append_right (by omega), h2, hj0]; rfl, hk x _ (.inl rfl) hx hxv⟩
  rcases h1.2 with ⟨rfl, rfl⟩ | ⟨id, g, rfl, hc, hid⟩
  · have hR : R.length = 0 := by rw [← h2]; rfl
    have hs' : 1 * bytes ≤ 2 ^ 47 := by rw [hR] at hs; simpa using hs
    refine ⟨.sl (H.length + 1) 0 0 1 1, H ++ [.cells 0 [x]] ++ [.cells 0 [x]], ?_, ⟨[x], ⟨h1.1.trans ⟨[.cells 0 [x], .cells 0 [x]], by simp⟩, .inr ⟨H.length + 1, 0, rfl, ?_, ?_⟩⟩, by simp [hR], rows _ _ fun y q hy hyo hyv => ⟨hyo.ext ⟨[.cells 0 [x], .cells 0 [x]], by simp⟩, ?_⟩⟩, rfl⟩
    · simp only [appendV, elems_new, hx', if_true, nilS, Nat.one_ne_zero, if_false, hs', List.length_append, List.length_cons, List.length_nil]
    · have := getC_new (H ++ [.cells 0 [x]]) 0 [x]
      simpa using this
    · have := h1.1.le; omega
    · intro a b c a' b' c' e1 e2
      cases e1
      rcases hyo with ⟨_, rfl | rfl⟩ | ⟨i, g, cc, rfl, hcc, _⟩
      · cases e2
      · cases e2
      · cases e2
        have := getC_lt hcc
        omega
  · have hlt := getC_lt hc
    have hc' := getC_app hc (G := [Ob.cells 0 [x]])
    have hbi : base ≤ id := by omega
    refine ⟨.sl id (g + 1) 0 (vs.length + 1) 1, (H ++ [Ob.cells 0 [x]]).set id (.cells (g + 1) (vs ++ [x])), ?_, ⟨vs ++ [x], ⟨(h1.1.trans (Ext.app _ _)).set hid _, .inr ⟨id, g + 1, by simp, getC_set hc' _, hid⟩⟩, by simp [h2], rows _ _ fun y q hy hyo hyv => ⟨?_, ?_⟩⟩, rfl⟩
    · have e2 : 0 + vs.length ≤ vs.length := by omega
      rw [← h2] at hs
      simp only [appendV, elems_new, hx', if_true, true_and, hbi, hc', e2, Nat.one_ne_zero, if_false, hs, List.drop_zero, Nat.mul_one, List.take_length]
    · rcases hyo with hyo | ⟨i, g', cc, rfl, hcc, p1, p2, p3⟩
      · exact .inl hyo
      · refine .inr ⟨i, g', cc, rfl, ?_, p1, p2, p3⟩
        have : id ≠ i := hyv _ _ _ _ _ _ rfl rfl
        rw [getC_other (Ne.symm this)]
        exact getC_app hcc
    · intro a b c a' b' c' e1 e2
      cases e1
      exact hyv _ _ _ _ _ _ rfl e2
theorem AccR.lt {H0 H : Heap} {v : V} {R : List (List V)} (h : AccR H0 H v R) {id g n : Nat} (hv : v = .sl id g 0 n 1) : id < H.length := by
  obtain ⟨vs, h1, _⟩ := h
  rcases h1.2 with ⟨_, e⟩ | ⟨i, g', e, hc, _⟩
  · rw [hv] at e; cases e
  · rw [hv] at e; cases e; exact getC_lt hc
theorem OwnN.apart {m : Nat} {H : Heap} {v x : V} {l : List V} (h : OwnN m H x l) (hv : ∀ id g n, v = .sl id g 0 n 1 → id < m) : ∀ id g n id' g' n', v = .sl id g 0 n 1 → x = .sl id' g' 0 n' 1 → id ≠ id' := by
  intro id g n id' g' n' e1 e2
  have h1 := hv id g n e1
  rcases h with ⟨_, e | e⟩ | ⟨i, gg, c, e, _, _, _, hi⟩
  · rw [e] at e2; cases e2
  · rw [e] at e2; cases e2
  · rw [e] at e2; cases e2; omega
theorem OwnN.trim_fr {m L : Nat} {H : Heap} {x : V} {l : List V} (h : OwnN m H x l) {fr : List V} (hx : x ∈ fr) : OwnN m (Go.AM.trim L fr H) x l := by
  rcases h with h | ⟨i, g, c, rfl, h2, h3, h4, h5⟩
  · exact .inl h
  · refine .inr ⟨i, g, c, rfl, ?_, h3, h4, h5⟩
    rcases trim_or L fr H with e | ⟨e, hu⟩
    · rw [e]; exact h2
    · have := hu _ hx
      simp only [idsUnder, decide_eq_true_eq] at this
      exact trim_get h2 this
/-! ### Looks beside an append -/
def apartO : Option (Option Nat) → Option (Option Nat) → Bool
  | some (some i), some (some j) => i != j
  | some _, some _ => true
  | _, _ => false
def apartP (x y : AOp) (fr : List V) : Bool :=
  match x.place, y.place with
  | some a, some b => apartO (x.obj (ev fr a)) (y.obj (ev fr b))
  | _, _ => false
theorem apartAt_eq (ops : List AOper) (fr : List V) (i j : Nat) : apartAt ops fr (i, j) = apartP (ops.getD i default).op (ops.getD j default).op fr := by
  simp only [apartAt, apartP]
  cases (ops.getD i default).op.place <;> cases (ops.getD j default).op.place <;> rfl
theorem apartP_load_app (g : Bool) (n : Nat) (a : Opd) (sz b : Nat) (s t : Opd) (fr : List V) : apartP (.load g n a) (.append sz b s t) fr = apartO (V.obj? (ev fr a)) (V.appObj (ev fr s)) := rfl
/-- where a read lands -/
theorem Rd.look {A H : Heap} {v : V} {l : List V} (h : Rd A v l) (k : Ext A H) (hw : Wide1 v) {i : Nat} {x : V} (hx : l[i]? = some x) : ∃ a, xIndexAddr 1 v (.s (.int .i64 i)) = some a ∧ xLoad H false 1 a = some x ∧ ∀ w, (∀ id g n, w = .sl id g 0 n 1 → A.length ≤ id) → (w = nilS ∨ ∃ id g n, w = .sl id g 0 n 1) → apartO (V.obj? a) (V.appObj w) = true := by
  obtain ⟨a, h1, h2⟩ := (h.ext k).at' hw hx
  refine ⟨a, h1, h2, fun w hw1 hw2 => ?_⟩
  have hi := (List.getElem?_eq_some_iff.1 hx).1
  rcases h.cases with ⟨rfl, _⟩ | ⟨es, rfl, _⟩ | ⟨id, g, off, n, c, rfl, hc, _⟩
  · simp at hi
  · simp only [xi_psl] at h1
    split at h1
    · rw [Option.map_eq_some_iff] at h1
      obtain ⟨q, _, rfl⟩ := h1
      rcases hw2 with rfl | ⟨id, g, n, rfl⟩ <;> rfl
    · cases h1
  · simp only [xi_sl] at h1
    split at h1
    · cases h1
      have hlt := getC_lt hc
      rcases hw2 with rfl | ⟨id', g', n', rfl⟩
      · rfl
      · have := hw1 _ _ _ rfl
        simp only [V.obj?, V.appObj, apartO, bne_iff_ne]
        omega
    · cases h1
theorem Bag.own {m : Nat} {H : Heap} {vs : List V} {R : List (List V)} (h : Bag m H vs R) {j : Nat} {w : V} (hw : vs[j]? = some w) : (∀ id g n, w = .sl id g 0 n 1 → m ≤ id) ∧ (w = nilS ∨ ∃ id g n, w = .sl id g 0 n 1) := by
  have hj := (List.getElem?_eq_some_iff.1 hw).1
  have hR : j < R.length := by rw [← h.1]; exact hj
  obtain ⟨x, h1, h2⟩ := h.2.1 j R[j] (List.getElem?_eq_getElem hR)
  rw [hw] at h1
  cases h1
  rcases h2 with ⟨_, rfl⟩ | ⟨id, g, rfl, _, hm⟩
  · exact ⟨fun _ _ _ e => (by cases e), .inl rfl⟩
  · exact ⟨fun _ _ _ e => (by cases e; exact hm), .inr ⟨_, _, _, rfl⟩⟩
end Go.AM
set_option maxRecDepth 100000
namespace Go.Proofs.Ytmnlagcmpgilaaa
open Go.AM
def bump (i : Int) (R : List (List Int)) (k : Int) : List (List Int) := R.set k.toNat (R.getD k.toNat [] ++ [i])
theorem bump_len (i : Int) (R : List (List Int)) (k : Int) : (bump i R k).length = R.length := by simp [bump]
theorem bumps_len (i : Int) (r : List Int) : ∀ R : List (List Int), (r.foldl (bump i) R).length = R.length := by
  induction r with
  | nil => intro R; rfl
  | cons x r ih => intro R; rw [List.foldl_cons, ih, bump_len]
theorem bump_le {i : Int} {R : List (List Int)} {k : Int} {B : Nat} (h : ∀ q ∈ R, q.length + 1 ≤ B) (hk : k.toNat < R.length) : ∀ q ∈ bump i R k, q.length ≤ B := by
  intro q hq
  rcases List.mem_or_eq_of_mem_set hq with h1 | rfl
  · have := h q h1; omega
  · have : R.getD k.toNat [] ∈ R := by rw [List.getD, List.getElem?_eq_getElem hk]; exact List.getElem_mem hk
    have := h _ this
    simp only [List.length_append, List.length_singleton]; omega
theorem rowsV_set (R : List (List Int)) (k : Nat) (r : List Int) (i : Int) : rowsV (R.set k (r ++ [i])) = (rowsV R).set k (r.map iV ++ [iV i]) := by
  simp [rowsV, List.map_set]
theorem back_inner (call : CallF) (base i n o m L : Nat) (nv row : V) (r : List Int) (A : Heap) (hA : A.length = m) (ho : o < m) (hb : base ≤ o) (hL : m ≤ L) (hrow : ∀ ob, Rd (A.set o ob) row (r.map iV)) (hw : Wide1 row) (hin : ∀ x ∈ r, 0 ≤ x ∧ x < n) (hr : r.length < 2 ^ 40) (hn : n < 2 ^ 40) :
    ∀ (rest : List Int) (k : Nat) (H : Heap) (vs : List V) (R : List (List Int)), r.drop k = rest → k ≤ r.length → L ≤ H.length → Ext (A.set o (.cells 0 vs)) H → getC H o 0 = some vs → Bag m H vs (rowsV R) → R.length = n → (∀ q ∈ R, q.length + rest.length ≤ 2 ^ 43) →
    ∃ H' vs', itW (evC call itW base s_graph_Back_l0) [] L (frOf 38 [(3, .sl o 0 0 n 1), (4, .s (.int .i64 i)), (12, nv), (13, .s (.int .i64 n)), (14, .s (.int .i64 i)), (19, row), (20, .s (.int .i64 r.length)), (21, .s (.int .i64 k))]) H =
      some (.ext 2, frOf 38 [(3, .sl o 0 0 n 1), (4, .s (.int .i64 i)), (12, nv), (13, .s (.int .i64 n)), (14, .s (.int .i64 i)), (19, row), (20, .s (.int .i64 r.length)), (21, .s (.int .i64 r.length)), (22, .s (.bool false))], H') ∧
      L ≤ H'.length ∧ Ext (A.set o (.cells 0 vs')) H' ∧ getC H' o 0 = some vs' ∧ Bag m H' vs' (rowsV (rest.foldl (bump i) R)) := by
  intro rest
  induction rest with
  | nil =>
    intro k H vs R hd hk hLH he hc hB hR hq
    have hkr : k = r.length := by
      have := congrArg List.length hd
      simp at this
      omega
    subst hkr
    refine ⟨trim L (frOf 38 [(3, .sl o 0 0 n 1), (4, .s (.int .i64 i)), (12, nv), (13, .s (.int .i64 n)), (14, .s (.int .i64 i)), (19, row), (20, .s (.int .i64 r.length)), (21, .s (.int .i64 r.length)), (22, .s (.bool false))]) H, vs, ?_, trim_le hLH, he.trim (by rw [List.length_set]; omega) _, trim_get hc (by omega), hB.trim hc (by omega) _⟩
    rw [itW_step]
    simp only [a_graph_Back,s_graph_Back_l0_b,s_graph_Back_l1_b, am0,am1,am2,am3,am4,am5,am6,am7,bl,i64,reduceIte,reduceCtorEq,Nat.reduceEqDiff,Nat.reduceLT,Nat.reduceLeDiff,Nat.reduceBEq,Nat.reduceAdd,fillA,splice,Nat.reduceMul,al0,al1,al2,al3,al4,al5,al6,al7,al8,al9,al10,al11,al12,al13,al14,al15,al16,al17,al18,al19,al20,al21,al22,al23,al24,al25,al26,al27,al28,al29,al30,al31,al32,al33,al34, Int.lt_irrefl]
  | cons x rest ih =>
    intro k H vs R hd hk hLH he hc hB hR hq
    have hx : r[k]? = some x := by have := congrArg (·[0]?) hd; simp only [List.getElem?_drop] at this; exact this
    have hlt : k < r.length := (List.getElem?_eq_some_iff.1 hx).1
    have hd' : r.drop (k + 1) = rest := by rw [← List.drop_drop, hd]; rfl
    obtain ⟨hx0, hxn⟩ := hin x (List.mem_of_getElem? hx)
    obtain ⟨j, rfl⟩ := Int.eq_ofNat_of_zero_le hx0
    have hjn : j < n := by omega
    have hRj : R[j]? = some (R.getD j []) := by rw [List.getD, List.getElem?_eq_getElem (by omega)]; rfl
    obtain ⟨a, ha1, ha2⟩ := ((hrow _).ext he).at' hw (i := k) (x := iV j) (by rw [List.getElem?_map, hx]; rfl)
    have hmem : R.getD j [] ∈ R := List.mem_of_getElem? hRj
    have hqj := hq _ hmem
    rw [List.length_cons] at hqj
    have hAH := he.le
    rw [List.length_set] at hAH
    obtain ⟨w, v', H1, hw1, happ, hv1, hc1, hm1, hB1, hE1⟩ := hB.append (base := base) (bytes := 8) (x := iV i) hc ho (by omega) (by omega) (rowsV_get hRj) rfl (by rw [List.length_map]; omega)
    obtain ⟨hb1, hb2⟩ := at_sl hc hjn hw1
    have hst := storeV_at (v := v') (base := base) hc1 hb hv1 (off := j) (by rw [hB.1, rowsV_len]; omega)
    have hwk := wrap_pos (n := k) (by omega)
    have hlt' : (k : Int) < (r.length : Int) := by omega
    have hjn' : (j : Int) < (n : Int) := by omega
    have he1 := hE1 _ (by rw [List.length_set]; omega) he
    have he2 := he1.set_both (o := o) (by rw [List.length_set]; omega) (.cells 0 (vs.set j v'))
    rw [List.set_set] at he2
    have hc2 := getC_put (c' := vs.set j v') hc1
    rw [← rowsV_set] at hB1
    obtain ⟨H', vs', p1, p2, p3, p4, p5⟩ := ih (k + 1) (trim L (frOf 38 [(3, .sl o 0 0 n 1), (4, .s (.int .i64 i)), (12, nv), (13, .s (.int .i64 n)), (14, .s (.int .i64 i)), (19, row), (20, .s (.int .i64 r.length)), (21, .s (.int .i64 ((k + 1 : Nat) : Int)))]) (H1.set o (.cells 0 (vs.set j v')))) (vs.set j v') (bump i R j) hd' (by omega) (trim_le (by rw [List.length_set]; omega)) (he2.trim (by rw [List.length_set]; omega) _) (trim_get hc2 (by omega)) (hB1.trim hc2 (by omega) _) (by rw [bump_len]; exact hR) (by
      intro q hqm
      have := bump_le (i := i) (R := R) (k := j) (B := 2 ^ 43 - rest.length) (fun q hq1 => by have := hq q hq1; rw [List.length_cons] at this; omega) (by rw [Int.toNat_natCast]; omega) q hqm
      omega)
    refine ⟨H', vs', ?_, p2, p3, p4, p5⟩
    unfold iV at ha2 happ
    rw [itW_step]
    simp only [a_graph_Back,s_graph_Back_l0_b,s_graph_Back_l1_b, am0,am1,am2,am3,am4,am5,am6,am7,bl,i64,reduceIte,reduceCtorEq,Nat.reduceEqDiff,Nat.reduceLT,Nat.reduceLeDiff,Nat.reduceBEq,Nat.reduceAdd,fillA,splice,Nat.reduceMul,al0,al1,al2,al3,al4,al5,al6,al7,al8,al9,al10,al11,al12,al13,al14,al15,al16,al17,al18,al19,al20,al21,al22,al23,al24,al25,al26,al27,al28,al29,al30,al31,al32,al33,al34, hlt', hwk, ha1, ha2, hb1, hb2, hjn', happ, hst]
    exact p1
def backFrom : Nat → List (List Int) → List (List Int) → List (List Int)
  | _, [], R => R
  | i, r :: N, R => backFrom (i + 1) N (r.foldl (bump i) R)
def sumLen : List (List Int) → Nat
  | [] => 0
  | r :: N => r.length + sumLen N
theorem bumps_le (i : Int) : ∀ (r : List Int) (R : List (List Int)) (B : Nat), (∀ x ∈ r, 0 ≤ x ∧ x < R.length) → (∀ q ∈ R, q.length + r.length ≤ B) → ∀ q ∈ r.foldl (bump i) R, q.length ≤ B := by
  intro r
  induction r with
  | nil => intro R B _ h q hq; exact h q hq
  | cons x r ih =>
    intro R B hx h q hq
    rw [List.foldl_cons] at hq
    have h0 := hx x List.mem_cons_self
    by_cases hB : r.length ≤ B
    · refine ih (bump i R x) B (fun y hy => by rw [bump_len]; exact hx y (List.mem_cons_of_mem _ hy)) (fun q hq => ?_) q hq
      have := bump_le (i := i) (R := R) (k := x) (B := B - r.length) (fun q hq => by have := h q hq; rw [List.length_cons] at this; omega) (by omega) q hq
      omega
    · have : R.getD x.toNat [] ∈ R := by rw [List.getD, List.getElem?_eq_getElem (by omega)]; exact List.getElem_mem (by omega)
      have := h _ this
      rw [List.length_cons] at this
      omega
theorem back_outer (call : CallF) (base n o m L : Nat) (nv : V) (N : List (List Int)) (A : Heap) (hA : A.length = m) (ho : o < m) (hb : base ≤ o) (hL : m ≤ L) (hnv : OwnRows (o + 1) A nv (rowsV N)) (hN : N.length = n) (hin : ∀ r ∈ N, ∀ x ∈ r, 0 ≤ x ∧ x < n) (hr : ∀ r ∈ N, r.length < 2 ^ 40) (hn : n < 2 ^ 40) :
    ∀ (rest : List (List Int)) (i : Nat) (H : Heap) (vs : List V) (R : List (List Int)), N.drop i = rest → i ≤ n → L ≤ H.length → Ext (A.set o (.cells 0 vs)) H → getC H o 0 = some vs → Bag m H vs (rowsV R) → R.length = n → (∀ q ∈ R, q.length + sumLen rest ≤ 2 ^ 43) →
    ∃ H' vs', itW (evC call itW base s_graph_Back_l1) [] L (frOf 38 [(3, .sl o 0 0 n 1), (12, nv), (13, .s (.int .i64 n)), (14, .s (.int .i64 i))]) H =
      some (.ext 0, frOf 38 [(3, .sl o 0 0 n 1), (12, nv), (13, .s (.int .i64 n)), (14, .s (.int .i64 n)), (15, .s (.bool false))], H') ∧
      L ≤ H'.length ∧ Ext (A.set o (.cells 0 vs')) H' ∧ getC H' o 0 = some vs' ∧ Bag m H' vs' (rowsV (backFrom i rest R)) := by
  intro rest
  induction rest with
  | nil =>
    intro i H vs R hd hi hLH he hc hB hR hq
    have hin : i = n := by
      have := congrArg List.length hd
      simp at this
      omega
    subst hin
    refine ⟨trim L (frOf 38 [(3, .sl o 0 0 i 1), (12, nv), (13, .s (.int .i64 i)), (14, .s (.int .i64 i)), (15, .s (.bool false))]) H, vs, ?_, trim_le hLH, he.trim (by rw [List.length_set]; omega) _, trim_get hc (by omega), hB.trim hc (by omega) _⟩
    rw [itW_step]
    simp only [a_graph_Back,s_graph_Back_l0_b,s_graph_Back_l1_b, am0,am1,am2,am3,am4,am5,am6,am7,bl,i64,reduceIte,reduceCtorEq,Nat.reduceEqDiff,Nat.reduceLT,Nat.reduceLeDiff,Nat.reduceBEq,Nat.reduceAdd,fillA,splice,Nat.reduceMul,al0,al1,al2,al3,al4,al5,al6,al7,al8,al9,al10,al11,al12,al13,al14,al15,al16,al17,al18,al19,al20,al21,al22,al23,al24,al25,al26,al27,al28,al29,al30,al31,al32,al33,al34, Int.lt_irrefl]
  | cons r rest ih =>
    intro i H vs R hd hi hLH he hc hB hR hq
    have hx : N[i]? = some r := by have := congrArg (·[0]?) hd; simp only [List.getElem?_drop] at this; exact this
    have hlt : i < n := by have := (List.getElem?_eq_some_iff.1 hx).1; omega
    have hd' : N.drop (i + 1) = rest := by rw [← List.drop_drop, hd]; rfl
    have hmem : r ∈ N := List.mem_of_getElem? hx
    obtain ⟨nid, ng, nvs, rfl, hnc, hnm, hnl, hnr⟩ := hnv
    obtain ⟨x, hx1, hx2⟩ := hnr i _ (rowsV_get hx)
    have hni : nid ≠ o := by omega
    have hAH := he.le
    rw [List.length_set] at hAH
    have hnc' : getC H nid ng = some nvs := getC_ext (by rw [getC_other hni]; exact hnc) he
    obtain ⟨ha1, ha2⟩ := at_sl hnc' (n := N.length) (by omega) hx1
    rw [hN] at ha1
    have hxl : xLen H .s x = some (.s (.int .i64 r.length)) := by
      have := ((hx2.set (by omega) (.cells 0 vs)).ext he).rd.len
      rwa [List.length_map] at this
    have hs : sumLen (r :: rest) = r.length + sumLen rest := rfl
    obtain ⟨H1, vs1, p1, p2, p3, p4, p5⟩ := back_inner call base i n o m H.length (.sl nid ng 0 n 1) x r A hA ho hb (by omega) (fun ob => (hx2.set (by omega) ob).rd) hx2.wide (hin r hmem) (hr r hmem) hn r 0 H vs R rfl (Nat.zero_le _) (Nat.le_refl _) he hc hB hR (fun q hqm => by have := hq q hqm; omega)
    rw [cast0] at p1
    have hw := wrap_pos (n := i) (by omega)
    have hlt' : (i : Int) < (n : Int) := by omega
    obtain ⟨H', vs', q1, q2, q3, q4, q5⟩ := ih (i + 1) (trim L (frOf 38 [(3, .sl o 0 0 n 1), (12, .sl nid ng 0 n 1), (13, .s (.int .i64 n)), (14, .s (.int .i64 ((i + 1 : Nat) : Int)))]) H1) vs1 (r.foldl (bump i) R) hd' (by omega) (trim_le (by omega)) (p3.trim (by rw [List.length_set]; omega) _) (trim_get p4 (by omega)) (p5.trim p4 (by omega) _) (by rw [bumps_len]; exact hR) (fun q hqm => by
      have := bumps_le i r R (2 ^ 43 - sumLen rest) (fun x hx => by rw [hR]; exact hin r hmem x hx) (fun q hq1 => by have := hq q hq1; omega) q hqm
      have h0 : sumLen rest ≤ 2 ^ 43 := by
        match R, hR with
        | [], h => simp at h; omega
        | q0 :: _, _ => have := hq q0 List.mem_cons_self; omega
      omega)
    refine ⟨H', vs', ?_, q2, q3, q4, q5⟩
    rw [rowsV_len, hN] at *
    rw [itW_step]
    simp only [a_graph_Back,s_graph_Back_l0_b,s_graph_Back_l1_b, am0,am1,am2,am3,am4,am5,am6,am7,bl,i64,reduceIte,reduceCtorEq,Nat.reduceEqDiff,Nat.reduceLT,Nat.reduceLeDiff,Nat.reduceBEq,Nat.reduceAdd,fillA,splice,Nat.reduceMul,al0,al1,al2,al3,al4,al5,al6,al7,al8,al9,al10,al11,al12,al13,al14,al15,al16,al17,al18,al19,al20,al21,al22,al23,al24,al25,al26,al27,al28,al29,al30,al31,al32,al33,al34, hlt', hw, ha1, ha2, hxl, p1]
    exact q1
end Go.Proofs.Ytmnlagcmpgilaaa
set_option maxRecDepth 100000
namespace Go.Proofs.Ytmnlagcmpgilaaa
open Go.AM
/-- A table that has the functions of graph. -/
structure CG (CT : Nat → Option CFun) : Prop where
  norm : CT k_graph_Norm = some (.code s_graph_Norm)
  norm1 : CT k_graph_Norm_1 = some (.code s_graph_Norm_1)
  clone : CT k_slices_Clone_int_int = some (.code s_slices_Clone_int_int)
  del : CT k_slices_DeleteFunc_int_int = some (.code s_slices_DeleteFunc_int_int)
  idx : CT k_slices_IndexFunc_int_int = some (.code s_slices_IndexFunc_int_int)
  sort : CT k_slices_Sort_int_int = some (.prim sortG)
  comp : CT k_slices_Compact_int_int = some (.code s_slices_Compact_int_int)
  back : CT k_graph_Back = some (.code s_graph_Back)
theorem chg_mem : ∀ (r : List Int) (p x : Int), x ∈ chg p r → x ∈ r := by
  intro r
  induction r with
  | nil => intro p x h; exact h
  | cons y r ih =>
    intro p x h
    simp only [chg] at h
    split at h
    · exact List.mem_cons_of_mem _ (ih _ _ h)
    · rcases List.mem_cons.1 h with rfl | h
      · exact List.mem_cons_self
      · exact List.mem_cons_of_mem _ (ih _ _ h)
theorem compactZ_mem {r : List Int} {x : Int} (h : x ∈ compactZ r) : x ∈ r := by
  cases r with
  | nil => exact h
  | cons y r =>
    rcases List.mem_cons.1 h with rfl | h
    · exact List.mem_cons_self
    · exact List.mem_cons_of_mem _ (chg_mem _ _ _ h)
theorem compactZ_len (r : List Int) : (compactZ r).length ≤ r.length := by
  cases r with
  | nil => exact Nat.le_refl _
  | cons y r => have := chg_len r y; simp only [compactZ, List.length_cons]; omega
theorem normR_in {n : Nat} {r : List Int} {x : Int} (h : x ∈ normR n r) : 0 ≤ x ∧ x < n := by
  have := compactZ_mem h
  rw [sortZ, List.mem_mergeSort, List.mem_filter] at this
  have := this.2
  simp only [outR, ge_iff_le, Bool.not_or, Bool.and_eq_true, Bool.not_eq_true', decide_eq_false_iff_not, Int.not_lt, Int.not_le] at this
  exact this
theorem normR_len (n : Int) (r : List Int) : (normR n r).length ≤ r.length := by
  refine Nat.le_trans (compactZ_len _) ?_
  rw [sortZ, List.length_mergeSort]
  exact List.length_filter_le _ _
theorem normG_len (G : List (List Int)) : (normG G).length = G.length := by simp [normG]
theorem normG_in {G : List (List Int)} {r : List Int} (h : r ∈ normG G) {x : Int} (hx : x ∈ r) : 0 ≤ x ∧ x < G.length := by
  obtain ⟨g, _, rfl⟩ := List.mem_map.1 h
  exact normR_in hx
theorem normG_small {G : List (List Int)} {b : Nat} (hG : ∀ r ∈ G, r.length < b) : ∀ r ∈ normG G, r.length < b := by
  intro r hr
  obtain ⟨g, hg, rfl⟩ := List.mem_map.1 hr
  exact Nat.lt_of_le_of_lt (normR_len _ _) (hG g hg)
theorem sumLen_le {b : Nat} : ∀ (N : List (List Int)), (∀ r ∈ N, r.length ≤ b) → sumLen N ≤ N.length * b := by
  intro N
  induction N with
  | nil => intro _; simp [sumLen]
  | cons r N ih =>
    intro h
    have h1 := h r List.mem_cons_self
    have h2 := ih fun r hr => h r (List.mem_cons_of_mem _ hr)
    have : (N.length + 1) * b = N.length * b + b := Nat.succ_mul _ _
    simp only [sumLen, List.length_cons]
    omega
def backG (G : List (List Int)) : List (List Int) := backFrom 0 (normG G) (List.replicate G.length [])
theorem backFrom_len : ∀ (N : List (List Int)) (i : Nat) (R : List (List Int)), (backFrom i N R).length = R.length := by
  intro N
  induction N with
  | nil => intro i R; rfl
  | cons r N ih => intro i R; rw [backFrom, ih, bumps_len]
theorem backG_len (G : List (List Int)) : (backG G).length = G.length := by rw [backG, backFrom_len, List.length_replicate]
theorem norm_f {CT : Nat → Option CFun} (h : CG CT) (base : Nat) (H : Heap) (v : V) (G : List (List Int)) (hv : RdRows H v (rowsV G)) (hb : base ≤ H.length) (hn : G.length < 2 ^ 40) (hr : ∀ r ∈ G, r.length < 2 ^ 40) :
    ∃ v' H', callW CT (.fn k_graph_Norm [] []) [v] base H = some (v', H') ∧ Ext H H' ∧ OwnRows H.length H' v' (rowsV (normG G)) := norm_fun h.norm h.clone h.del h.idx h.sort h.comp h.norm1 base H v G hv hb hn hr
theorem back_f {CT : Nat → Option CFun} (h : CG CT) (base : Nat) (H : Heap) (v : V) (G : List (List Int)) (hv : RdRows H v (rowsV G)) (hb : base ≤ H.length) (hn : G.length < 2 ^ 20) (hr : ∀ r ∈ G, r.length < 2 ^ 20) :
    ∃ v' H', callW CT (.fn k_graph_Back [] []) [v] base H = some (v', H') ∧ Ext H H' ∧ RdRows H' v' (rowsV (backG G)) := by
  have hlen : xLen H .s v = some (.s (.int .i64 G.length)) := by rw [← rowsV_len G]; exact hv.len
  have hmk := make_n (H := H) (zero := [nilS]) (sz := 1) (bytes := 24) (k := .i64) (k' := .i64) (n := G.length) (by omega)
  rw [flat_one] at hmk
  obtain ⟨nv, A, p1, p2, p3⟩ := norm_f h base (H ++ [.cells 0 (List.replicate G.length nilS)]) v G (hv.ext (Ext.app _ _)) (by simp; omega) (by omega) (fun r hr' => by have := hr r hr'; omega)
  have hAl := p2.le
  rw [len_snoc] at p3 hAl
  have hc : getC A H.length 0 = some (List.replicate G.length nilS) := getC_ext (getC_new H 0 _) p2
  have hN := normG_len G
  obtain ⟨H', vs', q1, q2, q3, q4, q5⟩ := back_outer (callW CT) base G.length H.length A.length A.length nv (normG G) A rfl (by omega) hb (Nat.le_refl _) p3 hN (fun r hr' x hx => normG_in hr' hx) (fun r hr' => Nat.lt_of_lt_of_le (normG_small hr r hr') (by omega)) (by omega) (normG G) 0 A (List.replicate G.length nilS) (List.replicate G.length []) rfl (Nat.zero_le _) (Nat.le_refl _) (by rw [getC_same hc]; exact Ext.refl A) hc (by have := Bag.start A.length A G.length; rwa [show rowsV (List.replicate G.length []) = List.replicate G.length [] by simp [rowsV]]) (by simp) (fun q hq => by
    rw [List.mem_replicate] at hq
    rw [hq.2]
    have := sumLen_le (b := 2 ^ 20) (normG G) (fun r hr' => Nat.le_of_lt (normG_small hr r hr'))
    rw [hN] at this
    have : G.length * 2 ^ 20 ≤ 2 ^ 20 * 2 ^ 20 := Nat.mul_le_mul_right _ (by omega)
    simp only [List.length_nil]
    omega)
  rw [cast0] at q1
  have hnl : xLen A .s nv = some (.s (.int .i64 G.length)) := by have := p3.rd.len; rwa [rowsV_len, hN] at this
  refine ⟨.sl H.length 0 0 G.length 1, H', callW_fn (c := s_graph_Back) h.back (by simp [s_graph_Back]) ?_, ?_, ?_⟩
  · simp only [nilS] at hmk p1
    simp only [s_graph_Back, a_graph_Back,s_graph_Back_l0_b,s_graph_Back_l1_b, am0,am1,am2,am3,am4,am5,am6,am7,bl,i64,reduceIte,reduceCtorEq,Nat.reduceEqDiff,Nat.reduceLT,Nat.reduceLeDiff,Nat.reduceBEq,Nat.reduceAdd,fillA,splice,Nat.reduceMul,al0,al1,al2,al3,al4,al5,al6,al7,al8,al9,al10,al11,al12,al13,al14,al15,al16,al17,al18,al19,al20,al21,al22,al23,al24,al25,al26,al27,al28,al29,al30,al31,al32,al33,al34, hlen, op_mkSl, hmk, p1, hnl, q1]
  · have e0 : Ext H (A.set H.length (.cells 0 vs')) := ((Ext.app _ _).trans p2).set (Nat.le_refl _) _
    exact e0.trans q3
  · have := q5.rows q4
    rwa [rowsV_len, show (backFrom 0 (normG G) (List.replicate G.length [])).length = G.length from backG_len G] at this
end Go.Proofs.Ytmnlagcmpgilaaa
set_option maxRecDepth 100000
namespace Go.Proofs.Ytmnlagcmpgilaaa
open Go.AM
theorem drop_cons {α : Type} {l r : List α} {x : α} {k : Nat} (h : l.drop k = x :: r) : l[k]? = some x ∧ k < l.length ∧ l.drop (k + 1) = r := by
  have hx : l[k]? = some x := by have := congrArg (·[0]?) h; simp only [List.getElem?_drop] at this; exact this
  exact ⟨hx, (List.getElem?_eq_some_iff.1 hx).1, by rw [← List.drop_drop, h]; rfl⟩
theorem drop_nil {α : Type} {l : List α} {k : Nat} (h : l.drop k = []) (hk : k ≤ l.length) : k = l.length := by
  have := congrArg List.length h
  simp at this
  omega
theorem iV_at {H : Heap} {v : V} {l : List Int} (h : Rd H v (l.map iV)) (hw : Wide1 v) {k : Nat} {x : Int} (hx : l[k]? = some x) : ∃ a, xIndexAddr 1 v (.s (.int .i64 k)) = some a ∧ xLoad H false 1 a = some (.s (.int .i64 x)) := h.at' hw (by rw [List.getElem?_map, hx]; rfl)
theorem iV_len {H : Heap} {v : V} {l : List Int} (h : Rd H v (l.map iV)) : xLen H .s v = some (.s (.int .i64 l.length)) := by have := h.len; rwa [List.length_map] at this
theorem has_loop (call : CallF) (base : Nat) (H : Heap) (v : V) (l : List Int) (y : Int) (hv : Rd H v (l.map iV)) (hw : Wide1 v) (hn : l.length < 2 ^ 62) : ∀ (r : List Int) (k : Nat), l.drop k = r → k ≤ l.length →
    itW (evC call itW base s_gnomonref01_Has_l0) [] H.length (frOf 18 [(0, v), (1, .s (.int .i64 y)), (5, .s (.int .i64 k))]) H =
      bif r.contains y then some (.ret, frOf 18 [(4, .s (.bool true))], H) else some (.ext 0, frOf 18 [(0, v), (1, .s (.int .i64 y)), (5, .s (.int .i64 l.length)), (9, .s (.bool false))], H) := by
  intro r
  induction r with
  | nil =>
    intro k hd hk
    obtain rfl := drop_nil hd hk
    rw [itW_step]
    simp only [a_gnomonref01_Has,s_gnomonref01_Has_l0_b, am0,am1,am2,am3,am4,am5,am6,am7,bl,i64,reduceIte,reduceCtorEq,Nat.reduceEqDiff,Nat.reduceLT,Nat.reduceLeDiff,Nat.reduceBEq,Nat.reduceAdd,fillA,splice,Nat.reduceMul,al0,al1,al2,al3,al4,al5,al6,al7,al8,al9,al10,al11,al12,al13,al14,al15,al16,al17,al18,al19,al20,al21,al22,al23,al24,al25,al26,al27,al28,al29,al30,al31,al32,al33,al34, iV_len hv, Int.lt_irrefl, trim_same rfl, List.contains_nil]
  | cons x r ih =>
    intro k hd hk
    obtain ⟨hx, hlt, hd'⟩ := drop_cons hd
    obtain ⟨a, ha1, ha2⟩ := iV_at hv hw hx
    have hlt' : (k : Int) < (l.length : Int) := by omega
    have hwk := wrap_pos (n := k) (by omega)
    rw [itW_step]
    cases hxy : x == y with
    | true =>
      have : (x :: r).contains y = true := by rw [List.contains_cons, beq_iff_eq.1 hxy]; simp
      simp only [a_gnomonref01_Has,s_gnomonref01_Has_l0_b, am0,am1,am2,am3,am4,am5,am6,am7,bl,i64,reduceIte,reduceCtorEq,Nat.reduceEqDiff,Nat.reduceLT,Nat.reduceLeDiff,Nat.reduceBEq,Nat.reduceAdd,fillA,splice,Nat.reduceMul,al0,al1,al2,al3,al4,al5,al6,al7,al8,al9,al10,al11,al12,al13,al14,al15,al16,al17,al18,al19,al20,al21,al22,al23,al24,al25,al26,al27,al28,al29,al30,al31,al32,al33,al34, iV_len hv, hlt', ha1, ha2, hxy, trim_same rfl, this]
    | false =>
      have : (x :: r).contains y = r.contains y := by
        have : (y == x) = false := by rw [beq_eq_false_iff_ne] at hxy ⊢; exact fun e => hxy e.symm
        rw [List.contains_cons, this, Bool.false_or]
      simp only [a_gnomonref01_Has,s_gnomonref01_Has_l0_b, am0,am1,am2,am3,am4,am5,am6,am7,bl,i64,reduceIte,reduceCtorEq,Nat.reduceEqDiff,Nat.reduceLT,Nat.reduceLeDiff,Nat.reduceBEq,Nat.reduceAdd,fillA,splice,Nat.reduceMul,al0,al1,al2,al3,al4,al5,al6,al7,al8,al9,al10,al11,al12,al13,al14,al15,al16,al17,al18,al19,al20,al21,al22,al23,al24,al25,al26,al27,al28,al29,al30,al31,al32,al33,al34, iV_len hv, hlt', ha1, ha2, hxy, hwk, trim_same rfl, this]
      exact ih (k + 1) hd' (by omega)
theorem has_fun {CT : Nat → Option CFun} (hT : CT k_gnomonref01_Has = some (.code s_gnomonref01_Has)) (base : Nat) (H : Heap) (v : V) (l : List Int) (y : Int) (hv : Rd H v (l.map iV)) (hw : Wide1 v) (hn : l.length < 2 ^ 62) :
    callW CT (.fn k_gnomonref01_Has [] []) [v, .s (.int .i64 y)] base H = some (.s (.bool (l.contains y)), H) := by
  refine callW_fn (c := s_gnomonref01_Has) hT (by simp [s_gnomonref01_Has]) ?_
  have hl := has_loop (callW CT) base H v l y hv hw hn l 0 rfl (Nat.zero_le _)
  rw [cast0] at hl
  simp only [s_gnomonref01_Has, a_gnomonref01_Has,s_gnomonref01_Has_l0_b, am0,am1,am2,am3,am4,am5,am6,am7,bl,i64,reduceIte,reduceCtorEq,Nat.reduceEqDiff,Nat.reduceLT,Nat.reduceLeDiff,Nat.reduceBEq,Nat.reduceAdd,fillA,splice,Nat.reduceMul,al0,al1,al2,al3,al4,al5,al6,al7,al8,al9,al10,al11,al12,al13,al14,al15,al16,al17,al18,al19,al20,al21,al22,al23,al24,al25,al26,al27,al28,al29,al30,al31,al32,al33,al34, hl]
  cases l.contains y <;> simp only [a_gnomonref01_Has,s_gnomonref01_Has_l0_b, am0,am1,am2,am3,am4,am5,am6,am7,bl,i64,reduceIte,reduceCtorEq,Nat.reduceEqDiff,Nat.reduceLT,Nat.reduceLeDiff,Nat.reduceBEq,Nat.reduceAdd,fillA,splice,Nat.reduceMul,al0,al1,al2,al3,al4,al5,al6,al7,al8,al9,al10,al11,al12,al13,al14,al15,al16,al17,al18,al19,al20,al21,al22,al23,al24,al25,al26,al27,al28,al29,al30,al31,al32,al33,al34]
theorem same_loop (call : CallF) (base : Nat) (H : Heap) (v w : V) (l l2 : List Int) (hv : Rd H v (l.map iV)) (hw : Wide1 v) (hv2 : Rd H w (l2.map iV)) (hw2 : Wide1 w) (hn : l.length < 2 ^ 62) (hll : l2.length = l.length) : ∀ (r r2 : List Int) (k : Nat), l.drop k = r → l2.drop k = r2 → k ≤ l.length →
    itW (evC call itW base s_gnomonref01_Same_l0) [] H.length (frOf 26 [(0, v), (1, w), (5, .s (.int .i64 k))]) H =
      bif r == r2 then some (.ext 0, frOf 26 [(0, v), (1, w), (5, .s (.int .i64 l.length)), (14, .s (.bool false))], H) else some (.ret, frOf 26 [(4, .s (.bool false))], H) := by
  intro r
  induction r with
  | nil =>
    intro r2 k hd hd2 hk
    obtain rfl := drop_nil hd hk
    have : r2 = [] := by rw [← hd2]; exact List.drop_of_length_le (by omega)
    subst this
    rw [itW_step]
    simp only [a_gnomonref01_Same,s_gnomonref01_Same_l0_b, am0,am1,am2,am3,am4,am5,am6,am7,bl,i64,reduceIte,reduceCtorEq,Nat.reduceEqDiff,Nat.reduceLT,Nat.reduceLeDiff,Nat.reduceBEq,Nat.reduceAdd,fillA,splice,Nat.reduceMul,al0,al1,al2,al3,al4,al5,al6,al7,al8,al9,al10,al11,al12,al13,al14,al15,al16,al17,al18,al19,al20,al21,al22,al23,al24,al25,al26,al27,al28,al29,al30,al31,al32,al33,al34, iV_len hv, Int.lt_irrefl, trim_same rfl, BEq.rfl]
  | cons x r ih =>
    intro r2 k hd hd2 hk
    obtain ⟨hx, hlt, hd'⟩ := drop_cons hd
    match r2, hd2 with
    | [], hd2 => have := drop_nil hd2 (by omega); omega
    | y :: r2, hd2 =>
      obtain ⟨hy, _, hd2'⟩ := drop_cons hd2
      obtain ⟨a, ha1, ha2⟩ := iV_at hv hw hx
      obtain ⟨b, hb1, hb2⟩ := iV_at hv2 hw2 hy
      have hlt' : (k : Int) < (l.length : Int) := by omega
      have hwk := wrap_pos (n := k) (by omega)
      have hc : ((x :: r) == (y :: r2)) = ((x == y) && (r == r2)) := rfl
      rw [itW_step, hc]
      cases hxy : x == y with
      | true =>
        have hne : (x != y) = false := by rw [bne, hxy]; rfl
        simp only [a_gnomonref01_Same,s_gnomonref01_Same_l0_b, am0,am1,am2,am3,am4,am5,am6,am7,bl,i64,reduceIte,reduceCtorEq,Nat.reduceEqDiff,Nat.reduceLT,Nat.reduceLeDiff,Nat.reduceBEq,Nat.reduceAdd,fillA,splice,Nat.reduceMul,al0,al1,al2,al3,al4,al5,al6,al7,al8,al9,al10,al11,al12,al13,al14,al15,al16,al17,al18,al19,al20,al21,al22,al23,al24,al25,al26,al27,al28,al29,al30,al31,al32,al33,al34, iV_len hv, hlt', ha1, ha2, hb1, hb2, hne, hwk, trim_same rfl]
        exact ih r2 (k + 1) hd' hd2' (by omega)
      | false =>
        have hne : (x != y) = true := by rw [bne, hxy]; rfl
        simp only [a_gnomonref01_Same,s_gnomonref01_Same_l0_b, am0,am1,am2,am3,am4,am5,am6,am7,bl,i64,reduceIte,reduceCtorEq,Nat.reduceEqDiff,Nat.reduceLT,Nat.reduceLeDiff,Nat.reduceBEq,Nat.reduceAdd,fillA,splice,Nat.reduceMul,al0,al1,al2,al3,al4,al5,al6,al7,al8,al9,al10,al11,al12,al13,al14,al15,al16,al17,al18,al19,al20,al21,al22,al23,al24,al25,al26,al27,al28,al29,al30,al31,al32,al33,al34, iV_len hv, hlt', ha1, ha2, hb1, hb2, hne, trim_same rfl]
theorem same_fun {CT : Nat → Option CFun} (hT : CT k_gnomonref01_Same = some (.code s_gnomonref01_Same)) (base : Nat) (H : Heap) (v w : V) (l l2 : List Int) (hv : Rd H v (l.map iV)) (hw : Wide1 v) (hv2 : Rd H w (l2.map iV)) (hw2 : Wide1 w) (hn : l.length < 2 ^ 62) :
    callW CT (.fn k_gnomonref01_Same [] []) [v, w] base H = some (.s (.bool (l == l2)), H) := by
  refine callW_fn (c := s_gnomonref01_Same) hT (by simp [s_gnomonref01_Same]) ?_
  by_cases hll : l.length = l2.length
  · have hl := same_loop (callW CT) base H v w l l2 hv hw hv2 hw2 hn hll.symm l l2 0 rfl rfl (Nat.zero_le _)
    rw [cast0] at hl
    have hne : (((l.length : Nat) : Int) != (l2.length : Nat)) = false := by rw [hll, bne, BEq.rfl]; rfl
    simp only [s_gnomonref01_Same, a_gnomonref01_Same,s_gnomonref01_Same_l0_b, am0,am1,am2,am3,am4,am5,am6,am7,bl,i64,reduceIte,reduceCtorEq,Nat.reduceEqDiff,Nat.reduceLT,Nat.reduceLeDiff,Nat.reduceBEq,Nat.reduceAdd,fillA,splice,Nat.reduceMul,al0,al1,al2,al3,al4,al5,al6,al7,al8,al9,al10,al11,al12,al13,al14,al15,al16,al17,al18,al19,al20,al21,al22,al23,al24,al25,al26,al27,al28,al29,al30,al31,al32,al33,al34, iV_len hv, iV_len hv2, hne, hl]
    cases l == l2 <;> simp only [a_gnomonref01_Same,s_gnomonref01_Same_l0_b, am0,am1,am2,am3,am4,am5,am6,am7,bl,i64,reduceIte,reduceCtorEq,Nat.reduceEqDiff,Nat.reduceLT,Nat.reduceLeDiff,Nat.reduceBEq,Nat.reduceAdd,fillA,splice,Nat.reduceMul,al0,al1,al2,al3,al4,al5,al6,al7,al8,al9,al10,al11,al12,al13,al14,al15,al16,al17,al18,al19,al20,al21,al22,al23,al24,al25,al26,al27,al28,al29,al30,al31,al32,al33,al34]
  · have hne : (((l.length : Nat) : Int) != (l2.length : Nat)) = true := by rw [bne_iff_ne]; omega
    have : (l == l2) = false := by rw [beq_eq_false_iff_ne]; intro e; exact hll (by rw [e])
    simp only [s_gnomonref01_Same, a_gnomonref01_Same,s_gnomonref01_Same_l0_b, am0,am1,am2,am3,am4,am5,am6,am7,bl,i64,reduceIte,reduceCtorEq,Nat.reduceEqDiff,Nat.reduceLT,Nat.reduceLeDiff,Nat.reduceBEq,Nat.reduceAdd,fillA,splice,Nat.reduceMul,al0,al1,al2,al3,al4,al5,al6,al7,al8,al9,al10,al11,al12,al13,al14,al15,al16,al17,al18,al19,al20,al21,al22,al23,al24,al25,al26,al27,al28,al29,al30,al31,al32,al33,al34, iV_len hv, iV_len hv2, hne, this]
end Go.Proofs.Ytmnlagcmpgilaaa
set_option maxRecDepth 100000
namespace Go.Proofs.Ytmnlagcmpgilaaa
open Go.AM
theorem rows_at {H : Heap} {v : V} {G : List (List Int)} (h : RdRows H v (rowsV G)) {k : Nat} {r : List Int} (hr : G[k]? = some r) : ∃ a x, xIndexAddr 1 v (.s (.int .i64 k)) = some a ∧ xLoad H false 1 a = some x ∧ Rd H x (r.map iV) ∧ Wide1 x := h.at (rowsV_get hr)
theorem rows_len {H : Heap} {v : V} {G : List (List Int)} (h : RdRows H v (rowsV G)) : xLen H .s v = some (.s (.int .i64 G.length)) := by have := h.len; rwa [rowsV_len] at this
theorem sameG_loop {CT : Nat → Option CFun} (hS : CT k_gnomonref01_Same = some (.code s_gnomonref01_Same)) (base : Nat) (H : Heap) (v w : V) (G G2 : List (List Int)) (hv : RdRows H v (rowsV G)) (hv2 : RdRows H w (rowsV G2)) (hn : G.length < 2 ^ 62) (hr : ∀ r ∈ G, r.length < 2 ^ 62) (hll : G2.length = G.length) : ∀ (r r2 : List (List Int)) (k : Nat), G.drop k = r → G2.drop k = r2 → k ≤ G.length →
    itW (evC (callW CT) itW base s_gnomonref07_Same_l0) [] H.length (frOf 27 [(0, v), (1, w), (5, .s (.int .i64 k))]) H =
      bif r == r2 then some (.ext 0, frOf 27 [(0, v), (1, w), (5, .s (.int .i64 G.length)), (14, .s (.bool false))], H) else some (.ret, frOf 27 [(4, .s (.bool false))], H) := by
  intro r
  induction r with
  | nil =>
    intro r2 k hd hd2 hk
    obtain rfl := drop_nil hd hk
    have : r2 = [] := by rw [← hd2]; exact List.drop_of_length_le (by omega)
    subst this
    rw [itW_step]
    simp only [a_gnomonref07_Same,s_gnomonref07_Same_l0_b, am0,am1,am2,am3,am4,am5,am6,am7,bl,i64,reduceIte,reduceCtorEq,Nat.reduceEqDiff,Nat.reduceLT,Nat.reduceLeDiff,Nat.reduceBEq,Nat.reduceAdd,fillA,splice,Nat.reduceMul,al0,al1,al2,al3,al4,al5,al6,al7,al8,al9,al10,al11,al12,al13,al14,al15,al16,al17,al18,al19,al20,al21,al22,al23,al24,al25,al26,al27,al28,al29,al30,al31,al32,al33,al34, rows_len hv, Int.lt_irrefl, trim_same rfl, BEq.rfl]
  | cons x r ih =>
    intro r2 k hd hd2 hk
    obtain ⟨hx, hlt, hd'⟩ := drop_cons hd
    match r2, hd2 with
    | [], hd2 => have := drop_nil hd2 (by omega); omega
    | y :: r2, hd2 =>
      obtain ⟨hy, _, hd2'⟩ := drop_cons hd2
      obtain ⟨a, xv, ha1, ha2, ha3, ha4⟩ := rows_at hv hx
      obtain ⟨b, yv, hb1, hb2, hb3, hb4⟩ := rows_at hv2 hy
      have hlt' : (k : Int) < (G.length : Int) := by omega
      have hwk := wrap_pos (n := k) (by omega)
      have hsame := same_fun hS base H xv yv x y ha3 ha4 hb3 hb4 (hr x (List.mem_of_getElem? hx))
      have hc : ((x :: r) == (y :: r2)) = ((x == y) && (r == r2)) := rfl
      rw [itW_step, hc]
      cases hxy : x == y with
      | true =>
        rw [hxy] at hsame
        simp only [a_gnomonref07_Same,s_gnomonref07_Same_l0_b, am0,am1,am2,am3,am4,am5,am6,am7,bl,i64,reduceIte,reduceCtorEq,Nat.reduceEqDiff,Nat.reduceLT,Nat.reduceLeDiff,Nat.reduceBEq,Nat.reduceAdd,fillA,splice,Nat.reduceMul,al0,al1,al2,al3,al4,al5,al6,al7,al8,al9,al10,al11,al12,al13,al14,al15,al16,al17,al18,al19,al20,al21,al22,al23,al24,al25,al26,al27,al28,al29,al30,al31,al32,al33,al34, rows_len hv, hlt', ha1, ha2, hb1, hb2, hsame, hwk, trim_same rfl]
        exact ih r2 (k + 1) hd' hd2' (by omega)
      | false =>
        rw [hxy] at hsame
        simp only [a_gnomonref07_Same,s_gnomonref07_Same_l0_b, am0,am1,am2,am3,am4,am5,am6,am7,bl,i64,reduceIte,reduceCtorEq,Nat.reduceEqDiff,Nat.reduceLT,Nat.reduceLeDiff,Nat.reduceBEq,Nat.reduceAdd,fillA,splice,Nat.reduceMul,al0,al1,al2,al3,al4,al5,al6,al7,al8,al9,al10,al11,al12,al13,al14,al15,al16,al17,al18,al19,al20,al21,al22,al23,al24,al25,al26,al27,al28,al29,al30,al31,al32,al33,al34, rows_len hv, hlt', ha1, ha2, hb1, hb2, hsame, trim_same rfl]
theorem sameG_fun {CT : Nat → Option CFun} (hT : CT k_gnomonref07_Same = some (.code s_gnomonref07_Same)) (hS : CT k_gnomonref01_Same = some (.code s_gnomonref01_Same)) (base : Nat) (H : Heap) (v w : V) (G G2 : List (List Int)) (hv : RdRows H v (rowsV G)) (hv2 : RdRows H w (rowsV G2)) (hn : G.length < 2 ^ 62) (hr : ∀ r ∈ G, r.length < 2 ^ 62) :
    callW CT (.fn k_gnomonref07_Same [] []) [v, w] base H = some (.s (.bool (G == G2)), H) := by
  refine callW_fn (c := s_gnomonref07_Same) hT (by simp [s_gnomonref07_Same]) ?_
  by_cases hll : G.length = G2.length
  · have hl := sameG_loop hS base H v w G G2 hv hv2 hn hr hll.symm G G2 0 rfl rfl (Nat.zero_le _)
    rw [cast0] at hl
    have hne : (((G.length : Nat) : Int) != (G2.length : Nat)) = false := by rw [hll, bne, BEq.rfl]; rfl
    simp only [s_gnomonref07_Same, a_gnomonref07_Same,s_gnomonref07_Same_l0_b, am0,am1,am2,am3,am4,am5,am6,am7,bl,i64,reduceIte,reduceCtorEq,Nat.reduceEqDiff,Nat.reduceLT,Nat.reduceLeDiff,Nat.reduceBEq,Nat.reduceAdd,fillA,splice,Nat.reduceMul,al0,al1,al2,al3,al4,al5,al6,al7,al8,al9,al10,al11,al12,al13,al14,al15,al16,al17,al18,al19,al20,al21,al22,al23,al24,al25,al26,al27,al28,al29,al30,al31,al32,al33,al34, rows_len hv, rows_len hv2, hne, hl]
    cases G == G2 <;> simp only [a_gnomonref07_Same,s_gnomonref07_Same_l0_b, am0,am1,am2,am3,am4,am5,am6,am7,bl,i64,reduceIte,reduceCtorEq,Nat.reduceEqDiff,Nat.reduceLT,Nat.reduceLeDiff,Nat.reduceBEq,Nat.reduceAdd,fillA,splice,Nat.reduceMul,al0,al1,al2,al3,al4,al5,al6,al7,al8,al9,al10,al11,al12,al13,al14,al15,al16,al17,al18,al19,al20,al21,al22,al23,al24,al25,al26,al27,al28,al29,al30,al31,al32,al33,al34]
  · have hne : (((G.length : Nat) : Int) != (G2.length : Nat)) = true := by rw [bne_iff_ne]; omega
    have : (G == G2) = false := by rw [beq_eq_false_iff_ne]; intro e; exact hll (by rw [e])
    simp only [s_gnomonref07_Same, a_gnomonref07_Same,s_gnomonref07_Same_l0_b, am0,am1,am2,am3,am4,am5,am6,am7,bl,i64,reduceIte,reduceCtorEq,Nat.reduceEqDiff,Nat.reduceLT,Nat.reduceLeDiff,Nat.reduceBEq,Nat.reduceAdd,fillA,splice,Nat.reduceMul,al0,al1,al2,al3,al4,al5,al6,al7,al8,al9,al10,al11,al12,al13,al14,al15,al16,al17,al18,al19,al20,al21,al22,al23,al24,al25,al26,al27,al28,al29,al30,al31,al32,al33,al34, rows_len hv, rows_len hv2, hne, this]
/-- great -/
def greatFrom : List (List Int) → Nat → Bool
  | [], n => decide (n > 3000)
  | r :: G, n => bif decide (r.length > 3000) then true else greatFrom G (n + r.length)
def greatG (G : List (List Int)) : Bool := decide (G.length > 200) || greatFrom G 0
theorem great_loop (call : CallF) (base : Nat) (H : Heap) (v : V) (G : List (List Int)) (hv : RdRows H v (rowsV G)) (hn : G.length ≤ 200) : ∀ (r : List (List Int)) (k n : Nat), G.drop k = r → k ≤ G.length → n ≤ 3000 * k →
    ∃ n' : Nat, itW (evC call itW base s_gnomonlaw07_great_l0) [] H.length (frOf 29 [(0, v), (3, .s (.int .i64 n)), (4, .s (.int .i64 k))]) H =
      some (if n' ≤ 3000000 then (.ext 0, frOf 29 [(0, v), (3, .s (.int .i64 n')), (4, .s (.int .i64 G.length)), (11, .s (.bool false))], H) else (.ret, frOf 29 [(2, .s (.bool true))], H)) ∧ greatFrom r n = decide (n' > 3000) := by
  intro r
  induction r with
  | nil =>
    intro k n hd hk hb
    obtain rfl := drop_nil hd hk
    refine ⟨n, ?_, rfl⟩
    rw [itW_step, if_pos (by omega)]
    simp only [a_gnomonlaw07_great,s_gnomonlaw07_great_l0_b, am0,am1,am2,am3,am4,am5,am6,am7,bl,i64,reduceIte,reduceCtorEq,Nat.reduceEqDiff,Nat.reduceLT,Nat.reduceLeDiff,Nat.reduceBEq,Nat.reduceAdd,fillA,splice,Nat.reduceMul,al0,al1,al2,al3,al4,al5,al6,al7,al8,al9,al10,al11,al12,al13,al14,al15,al16,al17,al18,al19,al20,al21,al22,al23,al24,al25,al26,al27,al28,al29,al30,al31,al32,al33,al34, rows_len hv, Int.lt_irrefl, trim_same rfl]
  | cons x r ih =>
    intro k n hd hk hb
    obtain ⟨hx, hlt, hd'⟩ := drop_cons hd
    obtain ⟨a, xv, ha1, ha2, ha3, ha4⟩ := rows_at hv hx
    have hlt' : (k : Int) < (G.length : Int) := by omega
    have hwk := wrap_pos (n := k) (by omega)
    by_cases hg : x.length > 3000
    · refine ⟨3000001, ?_, by simp only [greatFrom, hg, decide_true, cond_true]; decide⟩
      have hg' : ((x.length : Nat) : Int) > 3000 := by omega
      rw [itW_step, if_neg (by omega)]
      simp only [a_gnomonlaw07_great,s_gnomonlaw07_great_l0_b, am0,am1,am2,am3,am4,am5,am6,am7,bl,i64,reduceIte,reduceCtorEq,Nat.reduceEqDiff,Nat.reduceLT,Nat.reduceLeDiff,Nat.reduceBEq,Nat.reduceAdd,fillA,splice,Nat.reduceMul,al0,al1,al2,al3,al4,al5,al6,al7,al8,al9,al10,al11,al12,al13,al14,al15,al16,al17,al18,al19,al20,al21,al22,al23,al24,al25,al26,al27,al28,al29,al30,al31,al32,al33,al34, rows_len hv, hlt', ha1, ha2, iV_len ha3, hg', gt_iff_lt.1 hg', trim_same rfl]
    · obtain ⟨n', q1, q2⟩ := ih (k + 1) (n + x.length) hd' (by omega) (by omega)
      refine ⟨n', ?_, by simp only [greatFrom, hg, decide_false, cond_false]; exact q2⟩
      have hg' : ¬ (3000 : Int) < (x.length : Nat) := by omega
      have hwn : IntKind.i64.wrap ((n : Int) + (x.length : Nat)) = ((n + x.length : Nat) : Int) := by rw [IntKind.wrap_i64]; omega
      rw [itW_step]
      simp only [a_gnomonlaw07_great,s_gnomonlaw07_great_l0_b, am0,am1,am2,am3,am4,am5,am6,am7,bl,i64,reduceIte,reduceCtorEq,Nat.reduceEqDiff,Nat.reduceLT,Nat.reduceLeDiff,Nat.reduceBEq,Nat.reduceAdd,fillA,splice,Nat.reduceMul,al0,al1,al2,al3,al4,al5,al6,al7,al8,al9,al10,al11,al12,al13,al14,al15,al16,al17,al18,al19,al20,al21,al22,al23,al24,al25,al26,al27,al28,al29,al30,al31,al32,al33,al34, rows_len hv, hlt', ha1, ha2, iV_len ha3, hg', gt_iff_lt, hwn, hwk, trim_same rfl]
      exact q1
theorem great_fun {CT : Nat → Option CFun} (hT : CT k_gnomonlaw07_great = some (.code s_gnomonlaw07_great)) (base : Nat) (H : Heap) (v : V) (G : List (List Int)) (hv : RdRows H v (rowsV G)) :
    callW CT (.fn k_gnomonlaw07_great [] []) [v] base H = some (.s (.bool (greatG G)), H) := by
  refine callW_fn (c := s_gnomonlaw07_great) hT (by simp [s_gnomonlaw07_great]) ?_
  by_cases hg : G.length > 200
  · have hg' : (200 : Int) < (G.length : Nat) := by omega
    simp only [s_gnomonlaw07_great, a_gnomonlaw07_great,s_gnomonlaw07_great_l0_b, am0,am1,am2,am3,am4,am5,am6,am7,bl,i64,reduceIte,reduceCtorEq,Nat.reduceEqDiff,Nat.reduceLT,Nat.reduceLeDiff,Nat.reduceBEq,Nat.reduceAdd,fillA,splice,Nat.reduceMul,al0,al1,al2,al3,al4,al5,al6,al7,al8,al9,al10,al11,al12,al13,al14,al15,al16,al17,al18,al19,al20,al21,al22,al23,al24,al25,al26,al27,al28,al29,al30,al31,al32,al33,al34, rows_len hv, gt_iff_lt, hg', greatG, hg, decide_true, Bool.true_or]
  · have hg' : ¬ (200 : Int) < (G.length : Nat) := by omega
    obtain ⟨n, q1, q2⟩ := great_loop (callW CT) base H v G hv (by omega) G 0 0 rfl (Nat.zero_le _) (Nat.zero_le _)
    rw [cast0] at q1
    have hgG : greatG G = decide (n > 3000) := by rw [greatG, q2]; simp [hg]
    simp only [s_gnomonlaw07_great, a_gnomonlaw07_great,s_gnomonlaw07_great_l0_b, am0,am1,am2,am3,am4,am5,am6,am7,bl,i64,reduceIte,reduceCtorEq,Nat.reduceEqDiff,Nat.reduceLT,Nat.reduceLeDiff,Nat.reduceBEq,Nat.reduceAdd,fillA,splice,Nat.reduceMul,al0,al1,al2,al3,al4,al5,al6,al7,al8,al9,al10,al11,al12,al13,al14,al15,al16,al17,al18,al19,al20,al21,al22,al23,al24,al25,al26,al27,al28,al29,al30,al31,al32,al33,al34, rows_len hv, gt_iff_lt, hg', q1, hgG]
    split
    · have : decide ((3000 : Int) < (n : Int)) = decide (3000 < n) := by rw [decide_eq_decide]; omega
      simp only [a_gnomonlaw07_great,s_gnomonlaw07_great_l0_b, am0,am1,am2,am3,am4,am5,am6,am7,bl,i64,reduceIte,reduceCtorEq,Nat.reduceEqDiff,Nat.reduceLT,Nat.reduceLeDiff,Nat.reduceBEq,Nat.reduceAdd,fillA,splice,Nat.reduceMul,al0,al1,al2,al3,al4,al5,al6,al7,al8,al9,al10,al11,al12,al13,al14,al15,al16,al17,al18,al19,al20,al21,al22,al23,al24,al25,al26,al27,al28,al29,al30,al31,al32,al33,al34, gt_iff_lt, this]
    · have : decide (3000 < n) = true := by rw [decide_eq_true_eq]; omega
      simp only [a_gnomonlaw07_great,s_gnomonlaw07_great_l0_b, am0,am1,am2,am3,am4,am5,am6,am7,bl,i64,reduceIte,reduceCtorEq,Nat.reduceEqDiff,Nat.reduceLT,Nat.reduceLeDiff,Nat.reduceBEq,Nat.reduceAdd,fillA,splice,Nat.reduceMul,al0,al1,al2,al3,al4,al5,al6,al7,al8,al9,al10,al11,al12,al13,al14,al15,al16,al17,al18,al19,al20,al21,al22,al23,al24,al25,al26,al27,al28,al29,al30,al31,al32,al33,al34, this]
/-- what is not great -/
theorem greatFrom_small : ∀ (G : List (List Int)) (n : Nat), greatFrom G n = false → n + sumLen G ≤ 3000 ∧ ∀ r ∈ G, r.length ≤ 3000 := by
  intro G
  induction G with
  | nil => intro n h; simp [greatFrom] at h; exact ⟨by simpa [sumLen] using h, by simp⟩
  | cons r G ih =>
    intro n h
    simp only [greatFrom] at h
    by_cases hr : r.length > 3000
    · simp [hr] at h
    · simp only [hr, decide_false, cond_false] at h
      obtain ⟨h1, h2⟩ := ih _ h
      refine ⟨by simp only [sumLen]; omega, fun q hq => ?_⟩
      rcases List.mem_cons.1 hq with rfl | hq
      · omega
      · exact h2 q hq
theorem greatG_small {G : List (List Int)} (h : greatG G = false) : G.length ≤ 200 ∧ sumLen G ≤ 3000 ∧ ∀ r ∈ G, r.length ≤ 3000 := by
  simp only [greatG, Bool.or_eq_false_iff, decide_eq_false_iff_not] at h
  obtain ⟨h1, h2⟩ := greatFrom_small G 0 h.2
  exact ⟨by omega, by omega, h2⟩
end Go.Proofs.Ytmnlagcmpgilaaa
set_option maxRecDepth 100000
namespace Go.Proofs.Ytmnlagcmpgilaaa
open Go.AM
def addZ (l : List Int) (i : Int) : List Int := bif decide (i < 0) || l.contains i then l else l.takeWhile (fun x => decide (x < i)) ++ i :: l.dropWhile (fun x => decide (x < i))
theorem add_loop (call : CallF) (base : Nat) (H : Heap) (v : V) (l : List Int) (y : Int) (hv : Rd H v (l.map iV)) (hw : Wide1 v) (hn : l.length < 2 ^ 62) : ∀ (r : List Int) (k : Nat), l.drop k = r → k ≤ l.length →
    itW (evC call itW base s_gnomonref01_Add_l0) [] H.length (frOf 42 [(0, v), (1, .s (.int .i64 y)), (5, .s (.int .i64 k))]) H =
      some (.ext 0, frOf 42 [(0, v), (1, .s (.int .i64 y)), (5, .s (.int .i64 (k + (r.takeWhile fun x => decide (x < y)).length : Nat))), (26, .s (.bool false))], H) := by
  intro r
  induction r with
  | nil =>
    intro k hd hk
    obtain rfl := drop_nil hd hk
    rw [itW_step]
    simp only [a_gnomonref01_Add,s_gnomonref01_Add_l0_b, am0,am1,am2,am3,am4,am5,am6,am7,bl,i64,reduceIte,reduceCtorEq,Nat.reduceEqDiff,Nat.reduceLT,Nat.reduceLeDiff,Nat.reduceBEq,Nat.reduceAdd,fillA,splice,Nat.reduceMul,al0,al1,al2,al3,al4,al5,al6,al7,al8,al9,al10,al11,al12,al13,al14,al15,al16,al17,al18,al19,al20,al21,al22,al23,al24,al25,al26,al27,al28,al29,al30,al31,al32,al33,al34, iV_len hv, Int.lt_irrefl, trim_same rfl, List.takeWhile_nil]
  | cons x r ih =>
    intro k hd hk
    obtain ⟨hx, hlt, hd'⟩ := drop_cons hd
    obtain ⟨a, ha1, ha2⟩ := iV_at hv hw hx
    have hlt' : (k : Int) < (l.length : Int) := by omega
    have hwk := wrap_pos (n := k) (by omega)
    rw [itW_step]
    by_cases hxy : x < y
    · have h1 : (x :: r).takeWhile (fun x => decide (x < y)) = x :: r.takeWhile fun x => decide (x < y) := by rw [List.takeWhile_cons]; simp [hxy]
      have h2 : k + (r.takeWhile fun x => decide (x < y)).length + 1 = k + 1 + (r.takeWhile fun x => decide (x < y)).length := by omega
      rw [h1, List.length_cons, ← Nat.add_assoc, h2]
      simp only [a_gnomonref01_Add,s_gnomonref01_Add_l0_b, am0,am1,am2,am3,am4,am5,am6,am7,bl,i64,reduceIte,reduceCtorEq,Nat.reduceEqDiff,Nat.reduceLT,Nat.reduceLeDiff,Nat.reduceBEq,Nat.reduceAdd,fillA,splice,Nat.reduceMul,al0,al1,al2,al3,al4,al5,al6,al7,al8,al9,al10,al11,al12,al13,al14,al15,al16,al17,al18,al19,al20,al21,al22,al23,al24,al25,al26,al27,al28,al29,al30,al31,al32,al33,al34, iV_len hv, hlt', ha1, ha2, hxy, hwk, trim_same rfl]
      have := ih (k + 1) hd' (by omega)
      simpa only [am0,am1,am2,am3,am4,am5,am6,am7,bl,i64,reduceIte,reduceCtorEq,Nat.reduceEqDiff,Nat.reduceLT,Nat.reduceLeDiff,Nat.reduceBEq,Nat.reduceAdd,fillA,splice,Nat.reduceMul,al0,al1,al2,al3,al4,al5,al6,al7,al8,al9,al10,al11,al12,al13,al14,al15,al16,al17,al18,al19,al20,al21,al22,al23,al24,al25,al26,al27,al28,al29,al30,al31,al32,al33,al34] using this
    · have h1 : (x :: r).takeWhile (fun x => decide (x < y)) = [] := by rw [List.takeWhile_cons]; simp [hxy]
      rw [h1]
      simp only [a_gnomonref01_Add,s_gnomonref01_Add_l0_b, am0,am1,am2,am3,am4,am5,am6,am7,bl,i64,reduceIte,reduceCtorEq,Nat.reduceEqDiff,Nat.reduceLT,Nat.reduceLeDiff,Nat.reduceBEq,Nat.reduceAdd,fillA,splice,Nat.reduceMul,al0,al1,al2,al3,al4,al5,al6,al7,al8,al9,al10,al11,al12,al13,al14,al15,al16,al17,al18,al19,al20,al21,al22,al23,al24,al25,al26,al27,al28,al29,al30,al31,al32,al33,al34, iV_len hv, hlt', ha1, ha2, hxy, trim_same rfl]
theorem takeWhile_len (p : Int → Bool) (l : List Int) : (l.takeWhile p).length ≤ l.length ∧ l.take (l.takeWhile p).length = l.takeWhile p ∧ l.drop (l.takeWhile p).length = l.dropWhile p := by
  induction l with
  | nil => simp
  | cons x l ih =>
    rw [List.takeWhile_cons, List.dropWhile_cons]
    split
    · simp only [List.length_cons, List.take_succ_cons, List.drop_succ_cons, ih.2.1, ih.2.2, and_self, and_true]
      omega
    · simp
theorem add_fun {CT : Nat → Option CFun} (hT : CT k_gnomonref01_Add = some (.code s_gnomonref01_Add)) (hH : CT k_gnomonref01_Has = some (.code s_gnomonref01_Has)) (base : Nat) (H : Heap) (v : V) (l : List Int) (y : Int) (hv : Rd H v (l.map iV)) (hw : Wide1 v) (hb : base ≤ H.length) (hn : l.length < 2 ^ 40) :
    ∃ v' H', callW CT (.fn k_gnomonref01_Add [] []) [v, .s (.int .i64 y)] base H = some (v', H') ∧ Ext H H' ∧ ((v' = v ∧ addZ l y = l) ∨ OwnN H.length H' v' ((addZ l y).map iV)) := by
  have hhas := has_fun hH base H v l y hv hw (by omega)
  by_cases hy : y < 0
  · refine ⟨v, H, callW_fn (c := s_gnomonref01_Add) hT (by simp [s_gnomonref01_Add]) ?_, Ext.refl H, .inl ⟨rfl, by simp [addZ, hy]⟩⟩
    simp only [s_gnomonref01_Add, a_gnomonref01_Add,s_gnomonref01_Add_l0_b, am0,am1,am2,am3,am4,am5,am6,am7,bl,i64,reduceIte,reduceCtorEq,Nat.reduceEqDiff,Nat.reduceLT,Nat.reduceLeDiff,Nat.reduceBEq,Nat.reduceAdd,fillA,splice,Nat.reduceMul,al0,al1,al2,al3,al4,al5,al6,al7,al8,al9,al10,al11,al12,al13,al14,al15,al16,al17,al18,al19,al20,al21,al22,al23,al24,al25,al26,al27,al28,al29,al30,al31,al32,al33,al34, hy]
  · cases hc : l.contains y with
    | true =>
      refine ⟨v, H, callW_fn (c := s_gnomonref01_Add) hT (by simp [s_gnomonref01_Add]) ?_, Ext.refl H, .inl ⟨rfl, by simp only [addZ, hc, Bool.or_true, cond_true]⟩⟩
      rw [hc] at hhas
      simp only [s_gnomonref01_Add, a_gnomonref01_Add,s_gnomonref01_Add_l0_b, am0,am1,am2,am3,am4,am5,am6,am7,bl,i64,reduceIte,reduceCtorEq,Nat.reduceEqDiff,Nat.reduceLT,Nat.reduceLeDiff,Nat.reduceBEq,Nat.reduceAdd,fillA,splice,Nat.reduceMul,al0,al1,al2,al3,al4,al5,al6,al7,al8,al9,al10,al11,al12,al13,al14,al15,al16,al17,al18,al19,al20,al21,al22,al23,al24,al25,al26,al27,al28,al29,al30,al31,al32,al33,al34, hy, hhas]
    | false =>
      rw [hc] at hhas
      have hadd : addZ l y = l.takeWhile (fun x => decide (x < y)) ++ y :: l.dropWhile (fun x => decide (x < y)) := by simp only [addZ, hc, hy, decide_false, Bool.or_false, cond_false]
      obtain ⟨h1, h2, h3⟩ := takeWhile_len (fun x => decide (x < y)) l
      have hloop := add_loop (callW CT) base H v l y hv hw (by omega) l 0 rfl (Nat.zero_le _)
      rw [cast0, Nat.zero_add] at hloop
      rw [hadd]
      generalize hK : (l.takeWhile fun x => decide (x < y)).length = K at *
      obtain ⟨w1, e1, e2, e3⟩ := hv.slice hw (lo := none) (hi := some (.s (.int .i64 K))) (a := 0) (b := K) rfl (bndV_int _ _ _) (Nat.zero_le _) (by simpa using h1)
      rw [List.drop_zero, Nat.sub_zero, ← List.map_take, h2] at e2
      obtain ⟨w2, f1, f2, f3⟩ := hv.slice hw (lo := some (.s (.int .i64 K))) (hi := none) (a := K) (b := l.length) (bndV_int _ _ _) (by rw [bndV_none, List.length_map]) h1 (by simp)
      rw [← List.map_drop, h3, ← List.map_take, List.take_of_length_le (by rw [← h3]; simp)] at f2
      have hap := appendV_nil (base := base) (bytes := 8) e2 (ones _) (by rw [List.length_map, hK]; omega)
      rw [List.length_map, hK] at hap
      have hacc : ∃ v1 H1, appendV H base 1 8 nilS w1 = some (v1, H1) ∧ Acc H H1 v1 ((l.takeWhile fun x => decide (x < y)).map iV) := by
        rw [hap]
        split
        · rename_i h0
          have : l.takeWhile (fun x => decide (x < y)) = [] := List.eq_nil_of_length_eq_zero (by omega)
          rw [this]
          exact ⟨_, _, rfl, Acc.start H⟩
        · refine ⟨_, _, rfl, Ext.app _ _, .inr ⟨H.length, 0, by rw [List.length_map, hK], getC_new _ _ _, Nat.le_refl _⟩⟩
      obtain ⟨v1, H1, g1, g2⟩ := hacc
      obtain ⟨v2, H2, g3, g4⟩ := g2.append (base := base) (bytes := 8) hb (x := iV y) rfl (by rw [List.length_map, hK]; omega)
      rcases g4.2 with ⟨hnil, _⟩ | ⟨id, g, rfl, hc2, hid⟩
      · simp at hnil
      · obtain ⟨g', g5⟩ := append_full (bytes := 8) hc2 (by omega : base ≤ id) (f2.ext g4.1) (ones _) (by
          have : (l.dropWhile fun x => decide (x < y)).length ≤ l.length := by rw [← h3]; simp
          simp only [List.length_append, List.length_map, List.length_singleton, hK]; omega)
        refine ⟨.sl id g' 0 (((l.takeWhile fun x => decide (x < y)).map iV ++ [iV y]).length + ((l.dropWhile fun x => decide (x < y)).map iV).length) 1, H2.set id (.cells g' (((l.takeWhile fun x => decide (x < y)).map iV ++ [iV y]) ++ (l.dropWhile fun x => decide (x < y)).map iV)), callW_fn (c := s_gnomonref01_Add) hT (by simp [s_gnomonref01_Add]) ?_, g4.1.set hid _, .inr (.inr ⟨id, g', ((l.takeWhile fun x => decide (x < y)).map iV ++ [iV y]) ++ (l.dropWhile fun x => decide (x < y)).map iV, ?_, getC_set hc2 _, Nat.le_of_eq ?_, ?_, hid⟩)⟩
        · simp only [nilS, iV] at g1 g3 g5
          simp only [s_gnomonref01_Add, a_gnomonref01_Add,s_gnomonref01_Add_l0_b, am0,am1,am2,am3,am4,am5,am6,am7,bl,i64,reduceIte,reduceCtorEq,Nat.reduceEqDiff,Nat.reduceLT,Nat.reduceLeDiff,Nat.reduceBEq,Nat.reduceAdd,fillA,splice,Nat.reduceMul,al0,al1,al2,al3,al4,al5,al6,al7,al8,al9,al10,al11,al12,al13,al14,al15,al16,al17,al18,al19,al20,al21,al22,al23,al24,al25,al26,al27,al28,al29,al30,al31,al32,al33,al34, hy, hhas, hloop, e1, f1, g1, g3, g5]
          simp only [iV]
        · simp; omega
        · simp
        · rw [List.take_of_length_le (by simp)]; simp
end Go.Proofs.Ytmnlagcmpgilaaa
set_option maxRecDepth 100000
namespace Go.Proofs.Ytmnlagcmpgilaaa
open Go.AM
theorem rowsV_snoc (G : List (List Int)) (r : List Int) : rowsV (G ++ [r]) = rowsV G ++ [r.map iV] := by simp [rowsV]
theorem take_snoc {α : Type} {l : List α} {k : Nat} {x : α} (h : l[k]? = some x) : l.take (k + 1) = l.take k ++ [x] := by
  rw [List.take_succ, h]; rfl
theorem own_loop (call : CallF) (base : Nat) (H0 : Heap) (v : V) (G : List (List Int)) (hv : RdRows H0 v (rowsV G)) (hb : base ≤ H0.length) (hn : G.length < 2 ^ 40) (hr : ∀ r ∈ G, r.length < 2 ^ 40) : ∀ (r : List (List Int)) (k : Nat) (H : Heap) (acc : V), G.drop k = r → k ≤ G.length → AccR H0 H acc (rowsV (G.take k)) →
    ∃ acc' H', itW (evC call itW base s_gnomonlaw07_own_l0) [] H0.length (frOf 20 [(0, v), (3, acc), (4, .s (.int .i64 k))]) H = some (.ext 0, frOf 20 [(0, v), (3, acc'), (4, .s (.int .i64 G.length)), (8, .s (.bool false))], H') ∧ AccR H0 H' acc' (rowsV G) := by
  intro r
  induction r with
  | nil =>
    intro k H acc hd hk ha
    obtain rfl := drop_nil hd hk
    rw [List.take_length] at ha
    refine ⟨acc, trim H0.length (frOf 20 [(0, v), (3, acc), (4, .s (.int .i64 G.length)), (8, .s (.bool false))]) H, ?_, ha.trim (Nat.le_refl _) (frOf_mem (s := 3) (by omega) rfl)⟩
    rw [itW_step]
    simp only [a_gnomonlaw07_own,s_gnomonlaw07_own_l0_b, am0,am1,am2,am3,am4,am5,am6,am7,bl,i64,reduceIte,reduceCtorEq,Nat.reduceEqDiff,Nat.reduceLT,Nat.reduceLeDiff,Nat.reduceBEq,Nat.reduceAdd,fillA,splice,Nat.reduceMul,al0,al1,al2,al3,al4,al5,al6,al7,al8,al9,al10,al11,al12,al13,al14,al15,al16,al17,al18,al19,al20,al21,al22,al23,al24,al25,al26,al27,al28,al29,al30,al31,al32,al33,al34, rows_len (hv.ext ha.ext0), Int.lt_irrefl]
  | cons x r ih =>
    intro k H acc hd hk ha
    obtain ⟨hx, hlt, hd'⟩ := drop_cons hd
    obtain ⟨a, xv, ha1, ha2, ha3, ha4⟩ := rows_at (hv.ext ha.ext0) hx
    have hxl := hr x (List.mem_of_getElem? hx)
    have hlt' : (k : Int) < (G.length : Int) := by omega
    have hwk := wrap_pos (n := k) (by omega)
    have hap := appendV_nil (base := base) (bytes := 8) ha3 (ones _) (by rw [List.length_map]; omega)
    rw [List.length_map] at hap
    have hH := ha.ext0.le
    have hnew : ∃ x1 H1, appendV H base 1 8 nilS xv = some (x1, H1) ∧ Ext H H1 ∧ OwnN H.length H1 x1 (x.map iV) := by
      rw [hap]
      split
      · rename_i h0
        exact ⟨_, _, rfl, Ext.refl H, .inl ⟨by rw [List.eq_nil_of_length_eq_zero h0]; rfl, .inl rfl⟩⟩
      · exact ⟨_, _, rfl, Ext.app _ _, .inr ⟨H.length, 0, x.map iV, by rw [List.length_map], getC_new _ _ _, Nat.le_refl _, List.take_length, Nat.le_refl _⟩⟩
    obtain ⟨x1, H1, e1, e2, e3⟩ := hnew
    obtain ⟨acc1, H2, f1, f2, f3⟩ := (ha.ext e2).append hb (bytes := 24) (e3.mono hH) (e3.apart fun id g n h => ha.lt h) (by rw [rowsV_len, List.length_take]; omega)
    rw [← rowsV_snoc, ← take_snoc hx] at f2
    obtain ⟨acc', H', p1, p2⟩ := ih (k + 1) (trim H0.length (frOf 20 [(0, v), (3, acc1), (4, .s (.int .i64 ((k + 1 : Nat) : Int)))]) H2) acc1 hd' (by omega) (f2.trim (Nat.le_refl _) (frOf_mem (s := 3) (by omega) rfl))
    refine ⟨acc', H', ?_, p2⟩
    rw [itW_step]
    simp only [nilS] at e1
    have hone := e3.one
    simp only [a_gnomonlaw07_own,s_gnomonlaw07_own_l0_b, am0,am1,am2,am3,am4,am5,am6,am7,bl,i64,reduceIte,reduceCtorEq,Nat.reduceEqDiff,Nat.reduceLT,Nat.reduceLeDiff,Nat.reduceBEq,Nat.reduceAdd,fillA,splice,Nat.reduceMul,al0,al1,al2,al3,al4,al5,al6,al7,al8,al9,al10,al11,al12,al13,al14,al15,al16,al17,al18,al19,al20,al21,al22,al23,al24,al25,al26,al27,al28,al29,al30,al31,al32,al33,al34, rows_len (hv.ext ha.ext0), hlt', ha1, ha2, hwk, e1, hone, cells_of_one hone, f1]
    exact p1
theorem own_fun {CT : Nat → Option CFun} (hT : CT k_gnomonlaw07_own = some (.code s_gnomonlaw07_own)) (base : Nat) (H : Heap) (v : V) (G : List (List Int)) (hv : RdRows H v (rowsV G)) (hb : base ≤ H.length) (hn : G.length < 2 ^ 40) (hr : ∀ r ∈ G, r.length < 2 ^ 40) :
    ∃ v' H', callW CT (.fn k_gnomonlaw07_own [] []) [v] base H = some (v', H') ∧ Ext H H' ∧ RdRows H' v' (rowsV G) := by
  obtain ⟨acc, H', p1, p2⟩ := own_loop (callW CT) base H v G hv hb hn hr G 0 H nilS rfl (Nat.zero_le _) (AccR.start H)
  rw [cast0] at p1
  refine ⟨acc, H', callW_fn (c := s_gnomonlaw07_own) hT (by simp [s_gnomonlaw07_own]) ?_, p2.ext0, p2.rows⟩
  simp only [nilS] at p1
  simp only [s_gnomonlaw07_own, a_gnomonlaw07_own,s_gnomonlaw07_own_l0_b, am0,am1,am2,am3,am4,am5,am6,am7,bl,i64,reduceIte,reduceCtorEq,Nat.reduceEqDiff,Nat.reduceLT,Nat.reduceLeDiff,Nat.reduceBEq,Nat.reduceAdd,fillA,splice,Nat.reduceMul,al0,al1,al2,al3,al4,al5,al6,al7,al8,al9,al10,al11,al12,al13,al14,al15,al16,al17,al18,al19,al20,al21,al22,al23,al24,al25,al26,al27,al28,al29,al30,al31,al32,al33,al34, p1]
def refR (n : Nat) (l r : List Int) : List Int := r.foldl (fun (a : List Int) (x : Int) => bif decide (x ≥ 0) && decide (x < n) then addZ a x else a) l
def refN (G : List (List Int)) : List (List Int) := G.map (refR G.length [])
theorem addZ_len (l : List Int) (y : Int) : (addZ l y).length ≤ l.length + 1 := by
  simp only [addZ]
  cases decide (y < 0) || l.contains y with
  | true => simp
  | false =>
    have := (takeWhile_len (fun x => decide (x < y)) l).2
    have h1 := congrArg List.length (List.takeWhile_append_dropWhile (p := fun x => decide (x < y)) (l := l))
    simp only [List.length_append] at h1
    simp only [cond_false, List.length_append, List.length_cons]
    omega
theorem refR_len (n : Nat) : ∀ (r l : List Int), (refR n l r).length ≤ l.length + r.length := by
  intro r
  induction r with
  | nil => intro l; exact Nat.le_refl _
  | cons x r ih =>
    intro l
    have h1 := ih (bif decide (x ≥ 0) && decide (x < n) then addZ l x else l)
    have h2 : (bif decide (x ≥ 0) && decide (x < n) then addZ l x else l).length ≤ l.length + 1 := by
      cases decide (x ≥ 0) && decide (x < n)
      · simp
      · exact addZ_len l x
    simp only [refR, List.foldl_cons, List.length_cons] at h1 ⊢
    omega
theorem refN_inner {CT : Nat → Option CFun} (hT : CT k_gnomonref01_Add = some (.code s_gnomonref01_Add)) (hH : CT k_gnomonref01_Has = some (.code s_gnomonref01_Has)) (base : Nat) (Hs : Heap) (v acc : V) (G : List (List Int)) (i : Nat) (r : List Int) (hv : RdRows Hs v (rowsV G)) (hi : G[i]? = some r) (hb : base ≤ Hs.length) (hr : r.length < 2 ^ 39) : ∀ (rest : List Int) (k : Nat) (H : Heap) (row : V) (l : List Int), r.drop k = rest → k ≤ r.length → Ext Hs H → OwnN Hs.length H row (l.map iV) → l.length ≤ k →
    ∃ row' H', itW (evC (callW CT) itW base s_gnomonref07_Norm_l0) [] Hs.length (frOf 56 [(0, v), (3, acc), (4, .s (.int .i64 i)), (5, row), (6, .s (.int .i64 k))]) H = some (.ext 2, frOf 56 [(0, v), (3, acc), (4, .s (.int .i64 i)), (5, row'), (6, .s (.int .i64 r.length)), (19, .s (.bool false))], H') ∧
      Ext Hs H' ∧ OwnN Hs.length H' row' ((refR G.length l rest).map iV) := by
  intro rest
  induction rest with
  | nil =>
    intro k H row l hd hk he ho hl
    obtain rfl := drop_nil hd hk
    obtain ⟨a, xv, ha1, ha2, ha3, ha4⟩ := rows_at (hv.ext he) hi
    refine ⟨row, trim Hs.length (frOf 56 [(0, v), (3, acc), (4, .s (.int .i64 i)), (5, row), (6, .s (.int .i64 r.length)), (19, .s (.bool false))]) H, ?_, he.trim (Nat.le_refl _) _, ho.trim_fr (frOf_mem (s := 5) (by omega) rfl)⟩
    rw [itW_step]
    simp only [a_gnomonref07_Norm,s_gnomonref07_Norm_l0_b,s_gnomonref07_Norm_l1_b, am0,am1,am2,am3,am4,am5,am6,am7,bl,i64,reduceIte,reduceCtorEq,Nat.reduceEqDiff,Nat.reduceLT,Nat.reduceLeDiff,Nat.reduceBEq,Nat.reduceAdd,fillA,splice,Nat.reduceMul,al0,al1,al2,al3,al4,al5,al6,al7,al8,al9,al10,al11,al12,al13,al14,al15,al16,al17,al18,al19,al20,al21,al22,al23,al24,al25,al26,al27,al28,al29,al30,al31,al32,al33,al34, ha1, ha2, iV_len ha3, Int.lt_irrefl]
  | cons x rest ih =>
    intro k H row l hd hk he ho hl
    obtain ⟨hx, hlt, hd'⟩ := drop_cons hd
    obtain ⟨a, xv, ha1, ha2, ha3, ha4⟩ := rows_at (hv.ext he) hi
    obtain ⟨b, hb1, hb2⟩ := iV_at ha3 ha4 hx
    have hlt' : (k : Int) < (r.length : Int) := by omega
    have hwk := wrap_pos (n := k) (by omega)
    have hHs := he.le
    by_cases h0 : x ≥ 0
    · by_cases hxn : x < (G.length : Int)
      · obtain ⟨row1, H1, q1, q2, q3⟩ := add_fun hT hH base H row l x ho.rd ho.wide (by omega) (by omega)
        have ho1 : OwnN Hs.length H1 row1 ((addZ l x).map iV) := by
          rcases q3 with ⟨rfl, e⟩ | q3
          · rw [e]; exact ho.ext q2
          · exact q3.mono hHs
        have hal := addZ_len l x
        obtain ⟨row', H', p1, p2, p3⟩ := ih (k + 1) (trim Hs.length (frOf 56 [(0, v), (3, acc), (4, .s (.int .i64 i)), (5, row1), (6, .s (.int .i64 ((k + 1 : Nat) : Int)))]) H1) row1 (addZ l x) hd' (by omega) ((he.trans q2).trim (Nat.le_refl _) _) (ho1.trim_fr (frOf_mem (s := 5) (by omega) rfl)) (by omega)
        refine ⟨row', H', ?_, p2, by simpa only [refR, List.foldl_cons, h0, hxn, decide_true, Bool.and_true, cond_true] using p3⟩
        rw [itW_step]
        simp only [a_gnomonref07_Norm,s_gnomonref07_Norm_l0_b,s_gnomonref07_Norm_l1_b, am0,am1,am2,am3,am4,am5,am6,am7,bl,i64,reduceIte,reduceCtorEq,Nat.reduceEqDiff,Nat.reduceLT,Nat.reduceLeDiff,Nat.reduceBEq,Nat.reduceAdd,fillA,splice,Nat.reduceMul,al0,al1,al2,al3,al4,al5,al6,al7,al8,al9,al10,al11,al12,al13,al14,al15,al16,al17,al18,al19,al20,al21,al22,al23,al24,al25,al26,al27,al28,al29,al30,al31,al32,al33,al34, ha1, ha2, iV_len ha3, hlt', hb1, hb2, ge_iff_le, ge_iff_le.1 h0, rows_len (hv.ext he), hxn, q1, hwk]
        exact p1
      · obtain ⟨row', H', p1, p2, p3⟩ := ih (k + 1) (trim Hs.length (frOf 56 [(0, v), (3, acc), (4, .s (.int .i64 i)), (5, row), (6, .s (.int .i64 ((k + 1 : Nat) : Int)))]) H) row l hd' (by omega) (he.trim (Nat.le_refl _) _) (ho.trim_fr (frOf_mem (s := 5) (by omega) rfl)) (by omega)
        refine ⟨row', H', ?_, p2, by simpa only [refR, List.foldl_cons, h0, hxn, decide_true, decide_false, Bool.and_false, cond_false] using p3⟩
        rw [itW_step]
        simp only [a_gnomonref07_Norm,s_gnomonref07_Norm_l0_b,s_gnomonref07_Norm_l1_b, am0,am1,am2,am3,am4,am5,am6,am7,bl,i64,reduceIte,reduceCtorEq,Nat.reduceEqDiff,Nat.reduceLT,Nat.reduceLeDiff,Nat.reduceBEq,Nat.reduceAdd,fillA,splice,Nat.reduceMul,al0,al1,al2,al3,al4,al5,al6,al7,al8,al9,al10,al11,al12,al13,al14,al15,al16,al17,al18,al19,al20,al21,al22,al23,al24,al25,al26,al27,al28,al29,al30,al31,al32,al33,al34, ha1, ha2, iV_len ha3, hlt', hb1, hb2, ge_iff_le, ge_iff_le.1 h0, rows_len (hv.ext he), hxn, hwk]
        exact p1
    · obtain ⟨row', H', p1, p2, p3⟩ := ih (k + 1) (trim Hs.length (frOf 56 [(0, v), (3, acc), (4, .s (.int .i64 i)), (5, row), (6, .s (.int .i64 ((k + 1 : Nat) : Int)))]) H) row l hd' (by omega) (he.trim (Nat.le_refl _) _) (ho.trim_fr (frOf_mem (s := 5) (by omega) rfl)) (by omega)
      refine ⟨row', H', ?_, p2, by simpa only [refR, List.foldl_cons, h0, decide_false, Bool.false_and, cond_false] using p3⟩
      have h0' : ¬ 0 ≤ x := h0
      rw [itW_step]
      simp only [a_gnomonref07_Norm,s_gnomonref07_Norm_l0_b,s_gnomonref07_Norm_l1_b, am0,am1,am2,am3,am4,am5,am6,am7,bl,i64,reduceIte,reduceCtorEq,Nat.reduceEqDiff,Nat.reduceLT,Nat.reduceLeDiff,Nat.reduceBEq,Nat.reduceAdd,fillA,splice,Nat.reduceMul,al0,al1,al2,al3,al4,al5,al6,al7,al8,al9,al10,al11,al12,al13,al14,al15,al16,al17,al18,al19,al20,al21,al22,al23,al24,al25,al26,al27,al28,al29,al30,al31,al32,al33,al34, ha1, ha2, iV_len ha3, hlt', hb1, hb2, ge_iff_le, h0', rows_len (hv.ext he), hwk]
      exact p1
end Go.Proofs.Ytmnlagcmpgilaaa
set_option maxRecDepth 100000
namespace Go.Proofs.Ytmnlagcmpgilaaa
open Go.AM
theorem refN_outer {CT : Nat → Option CFun} (hT : CT k_gnomonref01_Add = some (.code s_gnomonref01_Add)) (hH : CT k_gnomonref01_Has = some (.code s_gnomonref01_Has)) (base : Nat) (H0 : Heap) (v : V) (G : List (List Int)) (hv : RdRows H0 v (rowsV G)) (hb : base ≤ H0.length) (hn : G.length < 2 ^ 39) (hr : ∀ r ∈ G, r.length < 2 ^ 39) : ∀ (rest : List (List Int)) (i : Nat) (H : Heap) (acc : V), G.drop i = rest → i ≤ G.length → AccR H0 H acc (rowsV ((G.take i).map (refR G.length []))) →
    ∃ acc' H', itW (evC (callW CT) itW base s_gnomonref07_Norm_l1) [] H0.length (frOf 56 [(0, v), (3, acc), (4, .s (.int .i64 i))]) H = some (.ext 0, frOf 56 [(0, v), (3, acc'), (4, .s (.int .i64 G.length)), (10, .s (.bool false))], H') ∧ AccR H0 H' acc' (rowsV (refN G)) := by
  intro rest
  induction rest with
  | nil =>
    intro i H acc hd hk ha
    obtain rfl := drop_nil hd hk
    rw [List.take_length] at ha
    refine ⟨acc, trim H0.length (frOf 56 [(0, v), (3, acc), (4, .s (.int .i64 G.length)), (10, .s (.bool false))]) H, ?_, ha.trim (Nat.le_refl _) (frOf_mem (s := 3) (by omega) rfl)⟩
    rw [itW_step]
    simp only [a_gnomonref07_Norm,s_gnomonref07_Norm_l0_b,s_gnomonref07_Norm_l1_b, am0,am1,am2,am3,am4,am5,am6,am7,bl,i64,reduceIte,reduceCtorEq,Nat.reduceEqDiff,Nat.reduceLT,Nat.reduceLeDiff,Nat.reduceBEq,Nat.reduceAdd,fillA,splice,Nat.reduceMul,al0,al1,al2,al3,al4,al5,al6,al7,al8,al9,al10,al11,al12,al13,al14,al15,al16,al17,al18,al19,al20,al21,al22,al23,al24,al25,al26,al27,al28,al29,al30,al31,al32,al33,al34, rows_len (hv.ext ha.ext0), Int.lt_irrefl]
  | cons x rest ih =>
    intro i H acc hd hk ha
    obtain ⟨hx, hlt, hd'⟩ := drop_cons hd
    have hxl := hr x (List.mem_of_getElem? hx)
    have hlt' : (i : Int) < (G.length : Int) := by omega
    have hwk := wrap_pos (n := i) (by omega)
    have hH0 := ha.ext0.le
    obtain ⟨row, H1, q1, q2, q3⟩ := refN_inner hT hH base H v acc G i x (hv.ext ha.ext0) hx (by omega) hxl x 0 H nilS [] rfl (Nat.zero_le _) (Ext.refl H) (.inl ⟨rfl, .inl rfl⟩) (Nat.le_refl _)
    rw [cast0] at q1
    have hone := q3.one
    obtain ⟨acc1, H2, f1, f2, f3⟩ := (ha.ext q2).append hb (bytes := 24) (q3.mono hH0) (q3.apart fun id g n h => ha.lt h) (by rw [rowsV_len, List.length_map, List.length_take]; omega)
    rw [← rowsV_snoc, show (G.take i).map (refR G.length []) ++ [refR G.length [] x] = (G.take (i + 1)).map (refR G.length []) by rw [take_snoc hx]; simp] at f2
    obtain ⟨acc', H', p1, p2⟩ := ih (i + 1) (trim H0.length (frOf 56 [(0, v), (3, acc1), (4, .s (.int .i64 ((i + 1 : Nat) : Int)))]) H2) acc1 hd' (by omega) (f2.trim (Nat.le_refl _) (frOf_mem (s := 3) (by omega) rfl))
    refine ⟨acc', H', ?_, p2⟩
    rw [itW_step]
    simp only [nilS] at q1
    simp only [a_gnomonref07_Norm,s_gnomonref07_Norm_l0_b,s_gnomonref07_Norm_l1_b, am0,am1,am2,am3,am4,am5,am6,am7,bl,i64,reduceIte,reduceCtorEq,Nat.reduceEqDiff,Nat.reduceLT,Nat.reduceLeDiff,Nat.reduceBEq,Nat.reduceAdd,fillA,splice,Nat.reduceMul,al0,al1,al2,al3,al4,al5,al6,al7,al8,al9,al10,al11,al12,al13,al14,al15,al16,al17,al18,al19,al20,al21,al22,al23,al24,al25,al26,al27,al28,al29,al30,al31,al32,al33,al34, rows_len (hv.ext ha.ext0), hlt', hwk, q1, hone, cells_of_one hone, f1]
    exact p1
theorem refN_fun {CT : Nat → Option CFun} (hT : CT k_gnomonref01_Add = some (.code s_gnomonref01_Add)) (hH : CT k_gnomonref01_Has = some (.code s_gnomonref01_Has)) (hN : CT k_gnomonref07_Norm = some (.code s_gnomonref07_Norm)) (base : Nat) (H : Heap) (v : V) (G : List (List Int)) (hv : RdRows H v (rowsV G)) (hb : base ≤ H.length) (hn : G.length < 2 ^ 39) (hr : ∀ r ∈ G, r.length < 2 ^ 39) :
    ∃ v' H', callW CT (.fn k_gnomonref07_Norm [] []) [v] base H = some (v', H') ∧ Ext H H' ∧ RdRows H' v' (rowsV (refN G)) := by
  obtain ⟨acc, H', p1, p2⟩ := refN_outer hT hH base H v G hv hb hn hr G 0 H nilS rfl (Nat.zero_le _) (AccR.start H)
  rw [cast0] at p1
  refine ⟨acc, H', callW_fn (c := s_gnomonref07_Norm) hN (by simp [s_gnomonref07_Norm]) ?_, p2.ext0, p2.rows⟩
  simp only [nilS] at p1
  simp only [s_gnomonref07_Norm, a_gnomonref07_Norm,s_gnomonref07_Norm_l0_b,s_gnomonref07_Norm_l1_b, am0,am1,am2,am3,am4,am5,am6,am7,bl,i64,reduceIte,reduceCtorEq,Nat.reduceEqDiff,Nat.reduceLT,Nat.reduceLeDiff,Nat.reduceBEq,Nat.reduceAdd,fillA,splice,Nat.reduceMul,al0,al1,al2,al3,al4,al5,al6,al7,al8,al9,al10,al11,al12,al13,al14,al15,al16,al17,al18,al19,al20,al21,al22,al23,al24,al25,al26,al27,al28,al29,al30,al31,al32,al33,al34, p1]
/-! ### ref.Back -/
theorem rback_inner (call : CallF) (base i n o m L : Nat) (nv : V) (N : List (List Int)) (r : List Int) (A : Heap) (hA : A.length = m) (ho : o < m) (hb : base ≤ o) (hL : m ≤ L) (hnv : ∀ ob, RdRows (A.set o ob) nv (rowsV N)) (hi : N[i]? = some r) (hin : ∀ x ∈ r, 0 ≤ x ∧ x < n) (hr : r.length < 2 ^ 40) (hn : n < 2 ^ 40) :
    ∀ (rest : List Int) (k : Nat) (H : Heap) (vs : List V) (R : List (List Int)), r.drop k = rest → k ≤ r.length → L ≤ H.length → Ext (A.set o (.cells 0 vs)) H → getC H o 0 = some vs → Bag m H vs (rowsV R) → R.length = n → (∀ q ∈ R, q.length + rest.length ≤ 2 ^ 43) →
    ∃ H' vs', itW (evC call itW base s_gnomonref07_Back_l0) [] L (frOf 49 [(0, nv), (3, .sl o 0 0 n 1), (4, .s (.int .i64 i)), (5, .s (.int .i64 k))]) H =
      some (.ext 2, frOf 49 [(0, nv), (3, .sl o 0 0 n 1), (4, .s (.int .i64 i)), (5, .s (.int .i64 r.length)), (23, .s (.bool false))], H') ∧
      L ≤ H'.length ∧ Ext (A.set o (.cells 0 vs')) H' ∧ getC H' o 0 = some vs' ∧ Bag m H' vs' (rowsV (rest.foldl (bump i) R)) := by
  intro rest
  induction rest with
  | nil =>
    intro k H vs R hd hk hLH he hc hB hR hq
    obtain rfl := drop_nil hd hk
    obtain ⟨a, xv, ha1, ha2, ha3, ha4⟩ := rows_at ((hnv _).ext he) hi
    refine ⟨trim L (frOf 49 [(0, nv), (3, .sl o 0 0 n 1), (4, .s (.int .i64 i)), (5, .s (.int .i64 r.length)), (23, .s (.bool false))]) H, vs, ?_, trim_le hLH, he.trim (by rw [List.length_set]; omega) _, trim_get hc (by omega), hB.trim hc (by omega) _⟩
    rw [itW_step]
    simp only [a_gnomonref07_Back,s_gnomonref07_Back_r7,s_gnomonref07_Back_l0_b,s_gnomonref07_Back_l1_b, am0,am1,am2,am3,am4,am5,am6,am7,bl,i64,reduceIte,reduceCtorEq,Nat.reduceEqDiff,Nat.reduceLT,Nat.reduceLeDiff,Nat.reduceBEq,Nat.reduceAdd,fillA,splice,Nat.reduceMul,al0,al1,al2,al3,al4,al5,al6,al7,al8,al9,al10,al11,al12,al13,al14,al15,al16,al17,al18,al19,al20,al21,al22,al23,al24,al25,al26,al27,al28,al29,al30,al31,al32,al33,al34, ha1, ha2, iV_len ha3, Int.lt_irrefl]
  | cons x rest ih =>
    intro k H vs R hd hk hLH he hc hB hR hq
    obtain ⟨hx, hlt, hd'⟩ := drop_cons hd
    obtain ⟨hx0, hxn⟩ := hin x (List.mem_of_getElem? hx)
    obtain ⟨j, rfl⟩ := Int.eq_ofNat_of_zero_le hx0
    have hjn : j < n := by omega
    have hRj : R[j]? = some (R.getD j []) := by rw [List.getD, List.getElem?_eq_getElem (by omega)]; rfl
    obtain ⟨nvs, hnv1, hnv2, hnv3, hnv4⟩ := hnv (.cells 0 vs)
    obtain ⟨xv, hxv1, hxv2, ha4⟩ := hnv4 i _ (rowsV_get hi)
    have ha3 := hxv2.ext he
    obtain ⟨c, hc1', hc2', hc3⟩ := hnv1.look he hnv2 hxv1
    obtain ⟨a, ha1, ha2, hax⟩ := hxv2.look he ha4 (i := k) (x := iV j) (by rw [List.getElem?_map, hx]; rfl)
    rw [List.length_set, hA] at hc3 hax
    have hmem : R.getD j [] ∈ R := List.mem_of_getElem? hRj
    have hqj := hq _ hmem
    rw [List.length_cons] at hqj
    have hAH := he.le
    rw [List.length_set] at hAH
    obtain ⟨w, v', H1, hw1, happ, hv1, hc1, hm1, hB1, hE1⟩ := hB.append (base := base) (bytes := 8) (x := iV i) hc ho (by omega) (by omega) (rowsV_get hRj) rfl (by rw [List.length_map]; omega)
    obtain ⟨hb1, hb2⟩ := at_sl hc hjn hw1
    have hst := storeV_at (v := v') (base := base) hc1 hb hv1 (off := j) (by rw [hB.1, rowsV_len]; omega)
    have hwk := wrap_pos (n := k) (by omega)
    have hlt' : (k : Int) < (r.length : Int) := by omega
    have hjn' : (j : Int) < (n : Int) := by omega
    have he1 := hE1 _ (by rw [List.length_set]; omega) he
    have he2 := he1.set_both (o := o) (by rw [List.length_set]; omega) (.cells 0 (vs.set j v'))
    rw [List.set_set] at he2
    have hc2 := getC_put (c' := vs.set j v') hc1
    rw [← rowsV_set] at hB1
    obtain ⟨H', vs', p1, p2, p3, p4, p5⟩ := ih (k + 1) (trim L (frOf 49 [(0, nv), (3, .sl o 0 0 n 1), (4, .s (.int .i64 i)), (5, .s (.int .i64 ((k + 1 : Nat) : Int)))]) (H1.set o (.cells 0 (vs.set j v')))) (vs.set j v') (bump i R j) hd' (by omega) (trim_le (by rw [List.length_set]; omega)) (he2.trim (by rw [List.length_set]; omega) _) (trim_get hc2 (by omega)) (hB1.trim hc2 (by omega) _) (by rw [bump_len]; exact hR) (by
      intro q hqm
      have := bump_le (i := i) (R := R) (k := j) (B := 2 ^ 43 - rest.length) (fun q hq1 => by have := hq q hq1; rw [List.length_cons] at this; omega) (by rw [Int.toNat_natCast]; omega) q hqm
      omega)
    refine ⟨H', vs', ?_, p2, p3, p4, p5⟩
    unfold iV at happ ha2
    obtain ⟨hw2, hw3⟩ := hB.own hw1
    have hl1 := hc3 w hw2 hw3
    have hl2 := hax w hw2 hw3
    rw [itW_step]
    simp only [a_gnomonref07_Back,s_gnomonref07_Back_r7,s_gnomonref07_Back_l0_b,s_gnomonref07_Back_l1_b, am0,am1,am2,am3,am4,am5,am6,am7,bl,i64,reduceIte,reduceCtorEq,Nat.reduceEqDiff,Nat.reduceLT,Nat.reduceLeDiff,Nat.reduceBEq,Nat.reduceAdd,fillA,splice,Nat.reduceMul,al0,al1,al2,al3,al4,al5,al6,al7,al8,al9,al10,al11,al12,al13,al14,al15,al16,al17,al18,al19,al20,al21,al22,al23,al24,al25,al26,al27,al28,al29,al30,al31,al32,al33,al34, hc1', hc2', iV_len ha3, hlt', hwk, ha1, ha2, hb1, hb2, hjn', happ, hst, row_ops, opsC_late, apartAt_eq, apartP_load_app, List.getD_cons_succ, List.getD_cons_zero, hl1, hl2]
    exact p1
end Go.Proofs.Ytmnlagcmpgilaaa
set_option maxRecDepth 100000
namespace Go.Proofs.Ytmnlagcmpgilaaa
open Go.AM
theorem rback_outer (call : CallF) (base n o m L : Nat) (nv : V) (N : List (List Int)) (A : Heap) (hA : A.length = m) (ho : o < m) (hb : base ≤ o) (hL : m ≤ L) (hnv : ∀ ob, RdRows (A.set o ob) nv (rowsV N)) (hN : N.length = n) (hin : ∀ r ∈ N, ∀ x ∈ r, 0 ≤ x ∧ x < n) (hr : ∀ r ∈ N, r.length < 2 ^ 40) (hn : n < 2 ^ 40) :
    ∀ (rest : List (List Int)) (i : Nat) (H : Heap) (vs : List V) (R : List (List Int)), N.drop i = rest → i ≤ n → L ≤ H.length → Ext (A.set o (.cells 0 vs)) H → getC H o 0 = some vs → Bag m H vs (rowsV R) → R.length = n → (∀ q ∈ R, q.length + sumLen rest ≤ 2 ^ 43) →
    ∃ H' vs', itW (evC call itW base s_gnomonref07_Back_l1) [] L (frOf 49 [(0, nv), (3, .sl o 0 0 n 1), (4, .s (.int .i64 i))]) H =
      some (.ext 0, frOf 49 [(0, nv), (3, .sl o 0 0 n 1), (4, .s (.int .i64 n)), (14, .s (.bool false))], H') ∧
      L ≤ H'.length ∧ Ext (A.set o (.cells 0 vs')) H' ∧ getC H' o 0 = some vs' ∧ Bag m H' vs' (rowsV (backFrom i rest R)) := by
  intro rest
  induction rest with
  | nil =>
    intro i H vs R hd hi hLH he hc hB hR hq
    have hin := drop_nil hd (by omega)
    rw [hN] at hin
    subst hin
    have hl := rows_len ((hnv _).ext he)
    rw [hN] at hl
    refine ⟨trim L (frOf 49 [(0, nv), (3, .sl o 0 0 i 1), (4, .s (.int .i64 i)), (14, .s (.bool false))]) H, vs, ?_, trim_le hLH, he.trim (by rw [List.length_set]; omega) _, trim_get hc (by omega), hB.trim hc (by omega) _⟩
    rw [itW_step]
    simp only [a_gnomonref07_Back,s_gnomonref07_Back_r7,s_gnomonref07_Back_l0_b,s_gnomonref07_Back_l1_b, am0,am1,am2,am3,am4,am5,am6,am7,bl,i64,reduceIte,reduceCtorEq,Nat.reduceEqDiff,Nat.reduceLT,Nat.reduceLeDiff,Nat.reduceBEq,Nat.reduceAdd,fillA,splice,Nat.reduceMul,al0,al1,al2,al3,al4,al5,al6,al7,al8,al9,al10,al11,al12,al13,al14,al15,al16,al17,al18,al19,al20,al21,al22,al23,al24,al25,al26,al27,al28,al29,al30,al31,al32,al33,al34, hl, Int.lt_irrefl]
  | cons r rest ih =>
    intro i H vs R hd hi hLH he hc hB hR hq
    obtain ⟨hx, hlt, hd'⟩ := drop_cons hd
    rw [hN] at hlt
    have hmem : r ∈ N := List.mem_of_getElem? hx
    have hAH := he.le
    rw [List.length_set] at hAH
    have hl := rows_len ((hnv _).ext he)
    rw [hN] at hl
    have hs : sumLen (r :: rest) = r.length + sumLen rest := rfl
    obtain ⟨H1, vs1, p1, p2, p3, p4, p5⟩ := rback_inner call base i n o m H.length nv N r A hA ho hb (by omega) hnv hx (hin r hmem) (hr r hmem) hn r 0 H vs R rfl (Nat.zero_le _) (Nat.le_refl _) he hc hB hR (fun q hqm => by have := hq q hqm; omega)
    rw [cast0] at p1
    have hw := wrap_pos (n := i) (by omega)
    have hlt' : (i : Int) < (n : Int) := by omega
    obtain ⟨H', vs', q1, q2, q3, q4, q5⟩ := ih (i + 1) (trim L (frOf 49 [(0, nv), (3, .sl o 0 0 n 1), (4, .s (.int .i64 ((i + 1 : Nat) : Int)))]) H1) vs1 (r.foldl (bump i) R) hd' (by omega) (trim_le (by omega)) (p3.trim (by rw [List.length_set]; omega) _) (trim_get p4 (by omega)) (p5.trim p4 (by omega) _) (by rw [bumps_len]; exact hR) (fun q hqm => by
      have := bumps_le i r R (2 ^ 43 - sumLen rest) (fun x hx => by rw [hR]; exact hin r hmem x hx) (fun q hq1 => by have := hq q hq1; omega) q hqm
      have h0 : sumLen rest ≤ 2 ^ 43 := by
        match R, hR with
        | [], h => simp at h; omega
        | q0 :: _, _ => have := hq q0 List.mem_cons_self; omega
      omega)
    refine ⟨H', vs', ?_, q2, q3, q4, q5⟩
    rw [itW_step]
    simp only [a_gnomonref07_Back,s_gnomonref07_Back_r7,s_gnomonref07_Back_l0_b,s_gnomonref07_Back_l1_b, am0,am1,am2,am3,am4,am5,am6,am7,bl,i64,reduceIte,reduceCtorEq,Nat.reduceEqDiff,Nat.reduceLT,Nat.reduceLeDiff,Nat.reduceBEq,Nat.reduceAdd,fillA,splice,Nat.reduceMul,al0,al1,al2,al3,al4,al5,al6,al7,al8,al9,al10,al11,al12,al13,al14,al15,al16,al17,al18,al19,al20,al21,al22,al23,al24,al25,al26,al27,al28,al29,al30,al31,al32,al33,al34, hlt', hw, hl, p1]
    exact q1
/-! ### The plain law: one form -/
def Up : List Int → Prop
  | [] => True
  | x :: r => (∀ y ∈ r, x < y) ∧ Up r
theorem up_eq : ∀ (a b : List Int), Up a → Up b → (∀ x, x ∈ a ↔ x ∈ b) → a = b := by
  intro a
  induction a with
  | nil => intro b _ _ h; cases b with
    | nil => rfl
    | cons y b => exact absurd ((h y).2 List.mem_cons_self) List.not_mem_nil
  | cons x a ih =>
    intro b ha hb h
    cases b with
    | nil => exact absurd ((h x).1 List.mem_cons_self) List.not_mem_nil
    | cons y b =>
      have hxy : x = y := by
        rcases List.mem_cons.1 ((h x).1 List.mem_cons_self) with e | e
        · exact e
        · rcases List.mem_cons.1 ((h y).2 List.mem_cons_self) with e2 | e2
          · exact e2.symm
          · have := hb.1 x e; have := ha.1 y e2; omega
      subst hxy
      rw [ih b ha.2 hb.2 fun z => ?_]
      constructor
      · intro hz
        have := ha.1 z hz
        rcases List.mem_cons.1 ((h z).1 (List.mem_cons_of_mem _ hz)) with e | e
        · omega
        · exact e
      · intro hz
        have := hb.1 z hz
        rcases List.mem_cons.1 ((h z).2 (List.mem_cons_of_mem _ hz)) with e | e
        · omega
        · exact e
theorem chg_up : ∀ (r : List Int) (p : Int), (p :: r).Pairwise (· ≤ ·) → Up (p :: chg p r) ∧ ∀ x, x ∈ (p :: chg p r) ↔ x ∈ (p :: r) := by
  intro r
  induction r with
  | nil => intro p _; exact ⟨⟨(fun y h => absurd h List.not_mem_nil), trivial⟩, fun _ => Iff.rfl⟩
  | cons y r ih =>
    intro p h
    rw [List.pairwise_cons] at h
    obtain ⟨q1, q2⟩ := ih y h.2
    simp only [chg]
    split
    · rename_i e
      have : y = p := beq_iff_eq.1 e
      subst this
      refine ⟨q1, fun x => ?_⟩
      rw [q2 x]
      simp
    · rename_i e
      have hne : y ≠ p := by intro e2; exact e (beq_iff_eq.2 e2)
      have hlt : p < y := by have := h.1 y List.mem_cons_self; omega
      refine ⟨⟨fun z hz => ?_, q1⟩, fun x => ?_⟩
      · rcases List.mem_cons.1 hz with rfl | hz
        · exact hlt
        · have := q1.1 z hz; omega
      · rw [List.mem_cons, q2 x, ← List.mem_cons]
theorem normR_up (n : Int) (r : List Int) : Up (normR n r) ∧ ∀ x, x ∈ normR n r ↔ x ∈ r ∧ outR n x = false := by
  have hs : (sortZ (r.filter fun k => !outR n k)).Pairwise (· ≤ ·) := by
    have := List.pairwise_mergeSort (le := fun x y : Int => decide (x ≤ y)) (by intro a b c; simp only [decide_eq_true_eq]; omega) (by intro a b; simp only [Bool.or_eq_true, decide_eq_true_eq]; omega) (r.filter fun k => !outR n k)
    simp only [decide_eq_true_eq] at this
    exact this
  have hm : ∀ x, x ∈ sortZ (r.filter fun k => !outR n k) ↔ x ∈ r ∧ outR n x = false := fun x => by
    rw [sortZ, List.mem_mergeSort, List.mem_filter]; simp
  simp only [normR]
  cases hz : sortZ (r.filter fun k => !outR n k) with
  | nil => rw [hz] at hm; exact ⟨trivial, hm⟩
  | cons p l =>
    rw [hz] at hm hs
    obtain ⟨q1, q2⟩ := chg_up l p hs
    exact ⟨q1, fun x => by rw [← hm x]; exact q2 x⟩
theorem up_append : ∀ (a b : List Int), Up a → Up b → (∀ x ∈ a, ∀ y ∈ b, x < y) → Up (a ++ b) := by
  intro a
  induction a with
  | nil => intro b _ hb _; exact hb
  | cons x a ih =>
    intro b ha hb h
    refine ⟨fun y hy => ?_, ih b ha.2 hb fun z hz => h z (List.mem_cons_of_mem _ hz)⟩
    rcases List.mem_append.1 hy with hy | hy
    · exact ha.1 y hy
    · exact h x List.mem_cons_self y hy
theorem up_split (y : Int) : ∀ (l : List Int), Up l → Up (l.takeWhile fun x => decide (x < y)) ∧ Up (l.dropWhile fun x => decide (x < y)) ∧ (∀ x ∈ l.takeWhile fun x => decide (x < y), x < y) ∧ (∀ x ∈ l.dropWhile fun x => decide (x < y), y ≤ x) := by
  intro l
  induction l with
  | nil => intro _; simp [Up]
  | cons x l ih =>
    intro h
    obtain ⟨i1, i2, i3, i4⟩ := ih h.2
    rw [List.takeWhile_cons, List.dropWhile_cons]
    by_cases hx : x < y
    · simp only [hx, decide_true, if_true]
      refine ⟨⟨fun z hz => h.1 z ((List.takeWhile_prefix _).subset hz), i1⟩, i2, fun z hz => ?_, i4⟩
      rcases List.mem_cons.1 hz with rfl | hz
      · exact hx
      · exact i3 z hz
    · simp only [hx, decide_false, Bool.false_eq_true, if_false]
      refine ⟨trivial, h, (fun z hz => absurd hz List.not_mem_nil), fun z hz => ?_⟩
      rcases List.mem_cons.1 hz with rfl | hz
      · omega
      · have := h.1 z hz; omega
theorem addZ_up (l : List Int) (y : Int) (h : Up l) (hy : 0 ≤ y) : Up (addZ l y) ∧ ∀ x, x ∈ addZ l y ↔ x ∈ l ∨ x = y := by
  have h0 : ¬ y < 0 := by omega
  simp only [addZ, h0, decide_false, Bool.false_or]
  cases hc : l.contains y with
  | true =>
    refine ⟨h, fun x => ⟨.inl, fun hx => ?_⟩⟩
    rcases hx with hx | rfl
    · exact hx
    · simpa using hc
  | false =>
    have hny : y ∉ l := by simpa using hc
    obtain ⟨i1, i2, i3, i4⟩ := up_split y l h
    simp only [cond_false]
    have hd : ∀ x ∈ l.dropWhile (fun x => decide (x < y)), y < x := fun x hx => by
      have h1 := i4 x hx
      have h2 : x ∈ l := (List.dropWhile_suffix _).subset hx
      have : x ≠ y := fun e => hny (e ▸ h2)
      omega
    refine ⟨up_append _ _ i1 ⟨hd, i2⟩ fun a ha b hb => ?_, fun x => ?_⟩
    · rcases List.mem_cons.1 hb with rfl | hb
      · exact i3 a ha
      · have := i3 a ha; have := hd b hb; omega
    · rw [List.mem_append, List.mem_cons]
      have hsp : x ∈ l ↔ x ∈ l.takeWhile (fun x => decide (x < y)) ∨ x ∈ l.dropWhile (fun x => decide (x < y)) := by rw [← List.mem_append, List.takeWhile_append_dropWhile]
      rw [hsp]
      constructor
      · rintro (h | rfl | h)
        · exact .inl (.inl h)
        · exact .inr rfl
        · exact .inl (.inr h)
      · rintro ((h | h) | rfl)
        · exact .inl h
        · exact .inr (.inr h)
        · exact .inr (.inl rfl)
theorem refR_up (n : Nat) : ∀ (r l : List Int), Up l → Up (refR n l r) ∧ ∀ x, x ∈ refR n l r ↔ x ∈ l ∨ (x ∈ r ∧ outR n x = false) := by
  intro r
  induction r with
  | nil => intro l h; exact ⟨h, fun x => by simp [refR]⟩
  | cons y r ih =>
    intro l h
    have ho : outR n y = !(decide (y ≥ 0) && decide (y < n)) := by
      simp only [outR, ge_iff_le, Bool.not_and]
      congr 1 <;> (rw [Bool.eq_iff_iff]; simp) <;> omega
    cases hc : decide (y ≥ 0) && decide (y < (n : Int)) with
    | true =>
      rw [hc] at ho
      have hy : 0 ≤ y := by simp at hc; exact hc.1
      obtain ⟨a1, a2⟩ := addZ_up l y h hy
      obtain ⟨q1, q2⟩ := ih (addZ l y) a1
      have he : refR n l (y :: r) = refR n (addZ l y) r := by simp only [refR, List.foldl_cons, hc, cond_true]
      rw [he]
      refine ⟨q1, fun x => ?_⟩
      rw [q2, a2, List.mem_cons]
      constructor
      · rintro ((h | rfl) | ⟨h1, h2⟩)
        · exact .inl h
        · exact .inr ⟨.inl rfl, ho⟩
        · exact .inr ⟨.inr h1, h2⟩
      · rintro (h | ⟨rfl | h1, h2⟩)
        · exact .inl (.inl h)
        · exact .inl (.inr rfl)
        · exact .inr ⟨h1, h2⟩
    | false =>
      rw [hc] at ho
      obtain ⟨q1, q2⟩ := ih l h
      have he : refR n l (y :: r) = refR n l r := by simp only [refR, List.foldl_cons, hc, cond_false]
      rw [he]
      refine ⟨q1, fun x => ?_⟩
      rw [q2, List.mem_cons]
      constructor
      · rintro (h | ⟨h1, h2⟩)
        · exact .inl h
        · exact .inr ⟨.inr h1, h2⟩
      · rintro (h | ⟨rfl | h1, h2⟩)
        · exact .inl h
        · rw [ho] at h2; cases h2
        · exact .inr ⟨h1, h2⟩
theorem norm_ref (n : Nat) (r : List Int) : normR n r = refR n [] r := by
  obtain ⟨a1, a2⟩ := normR_up n r
  obtain ⟨b1, b2⟩ := refR_up n r [] trivial
  refine up_eq _ _ a1 b1 fun x => ?_
  rw [a2, b2]; simp
theorem normG_ref (G : List (List Int)) : normG G = refN G := by
  simp only [normG, refN]
  exact List.map_congr_left fun r _ => norm_ref _ r
end Go.Proofs.Ytmnlagcmpgilaaa
set_option maxRecDepth 100000
namespace Go.Proofs.Ytmnlagcmpgilaaa
open Go.AM
theorem refN_len (G : List (List Int)) : (refN G).length = G.length := by simp [refN]
theorem rback_fun {CT : Nat → Option CFun} (hT : CT k_gnomonref01_Add = some (.code s_gnomonref01_Add)) (hH : CT k_gnomonref01_Has = some (.code s_gnomonref01_Has)) (hN : CT k_gnomonref07_Norm = some (.code s_gnomonref07_Norm)) (hB : CT k_gnomonref07_Back = some (.code s_gnomonref07_Back)) (base : Nat) (H : Heap) (v : V) (G : List (List Int)) (hv : RdRows H v (rowsV G)) (hb : base ≤ H.length) (hn : G.length < 2 ^ 20) (hr : ∀ r ∈ G, r.length < 2 ^ 20) :
    ∃ v' H', callW CT (.fn k_gnomonref07_Back [] []) [v] base H = some (v', H') ∧ Ext H H' ∧ RdRows H' v' (rowsV (backG G)) := by
  obtain ⟨nv, A0, p1, p2, p3⟩ := refN_fun hT hH hN base H v G hv hb (by omega) (fun r hr' => by have := hr r hr'; omega)
  have hl0 := p2.le
  rw [← normG_ref] at p3
  have hN' := normG_len G
  have hnl := rows_len p3
  rw [hN'] at hnl
  have hmk := make_n (H := A0) (zero := [nilS]) (sz := 1) (bytes := 24) (k := .i64) (k' := .i64) (n := G.length) (by omega)
  rw [flat_one] at hmk
  have hset : ∀ ob, (A0 ++ [Ob.cells 0 (List.replicate G.length nilS)]).set A0.length ob = A0 ++ [ob] := fun ob => by simp
  have hc := getC_new A0 0 (List.replicate G.length nilS)
  obtain ⟨H', vs', q1, q2, q3, q4, q5⟩ := rback_outer (callW CT) base G.length A0.length (A0.length + 1) (A0.length + 1) nv (normG G) (A0 ++ [.cells 0 (List.replicate G.length nilS)]) (by simp) (by omega) (by omega) (Nat.le_refl _) (fun ob => by rw [hset]; exact p3.ext (Ext.app _ _)) hN' (fun r hr' x hx => normG_in hr' hx) (fun r hr' => Nat.lt_of_lt_of_le (normG_small hr r hr') (by omega)) (by omega) (normG G) 0 (A0 ++ [.cells 0 (List.replicate G.length nilS)]) (List.replicate G.length nilS) (List.replicate G.length []) rfl (Nat.zero_le _) (by simp) (by rw [hset]; exact Ext.refl _) hc (by have := Bag.start (A0.length + 1) (A0 ++ [.cells 0 (List.replicate G.length nilS)]) G.length; rwa [show rowsV (List.replicate G.length []) = List.replicate G.length [] by simp [rowsV]]) (by simp) (fun q hq => by
    rw [List.mem_replicate] at hq
    rw [hq.2]
    have := sumLen_le (b := 2 ^ 20) (normG G) (fun r hr' => Nat.le_of_lt (normG_small hr r hr'))
    rw [hN'] at this
    have : G.length * 2 ^ 20 ≤ 2 ^ 20 * 2 ^ 20 := Nat.mul_le_mul_right _ (by omega)
    simp only [List.length_nil]
    omega)
  rw [cast0] at q1
  refine ⟨.sl A0.length 0 0 G.length 1, H', callW_fn (c := s_gnomonref07_Back) hB (by simp [s_gnomonref07_Back]) ?_, ?_, ?_⟩
  · simp only [nilS] at hmk q1
    simp only [s_gnomonref07_Back, a_gnomonref07_Back,s_gnomonref07_Back_r7,s_gnomonref07_Back_l0_b,s_gnomonref07_Back_l1_b, am0,am1,am2,am3,am4,am5,am6,am7,bl,i64,reduceIte,reduceCtorEq,Nat.reduceEqDiff,Nat.reduceLT,Nat.reduceLeDiff,Nat.reduceBEq,Nat.reduceAdd,fillA,splice,Nat.reduceMul,al0,al1,al2,al3,al4,al5,al6,al7,al8,al9,al10,al11,al12,al13,al14,al15,al16,al17,al18,al19,al20,al21,al22,al23,al24,al25,al26,al27,al28,al29,al30,al31,al32,al33,al34, p1, hnl, op_mkSl, hmk, q1]
  · rw [hset] at q3
    exact (p2.trans (Ext.app _ _)).trans q3
  · have := q5.rows q4
    rwa [rowsV_len, show (backFrom 0 (normG G) (List.replicate G.length [])).length = G.length from backG_len G] at this
/-! ### What is told is changed -/
def Shape (m : Nat) (H : Heap) (v : V) (lens : List Nat) : Prop := ∃ id g vs, v = .sl id g 0 lens.length 1 ∧ getC H id g = some vs ∧ m ≤ id ∧ vs.length = lens.length ∧
  ∀ (i len : Nat), lens[i]? = some len → ∃ x, vs[i]? = some x ∧ ((len = 0 ∧ (x = nilS ∨ x = .esl)) ∨ ∃ id' g' c, x = .sl id' g' 0 len 1 ∧ getC H id' g' = some c ∧ len ≤ c.length ∧ id + 1 ≤ id')
theorem OwnRows.shape {m : Nat} {H : Heap} {v : V} {G : List (List Int)} (h : OwnRows m H v (rowsV G)) : Shape m H v (G.map List.length) := by
  obtain ⟨id, g, vs, h1, h2, h3, h4, h5⟩ := h
  rw [rowsV_len] at h1 h4
  refine ⟨id, g, vs, by rw [List.length_map]; exact h1, h2, h3, by rw [List.length_map]; exact h4, fun i len hl => ?_⟩
  rw [List.getElem?_map, Option.map_eq_some_iff] at hl
  obtain ⟨r, hr, rfl⟩ := hl
  obtain ⟨x, q1, q2⟩ := h5 i _ (rowsV_get hr)
  refine ⟨x, q1, ?_⟩
  rcases q2 with ⟨a, b⟩ | ⟨id', g', c, a, b, d, _, e⟩
  · have : r = [] := by simpa using a
    exact .inl ⟨by rw [this]; rfl, b⟩
  · rw [List.length_map] at a d
    exact .inr ⟨id', g', c, a, b, d, e⟩
theorem Shape.trim {m L : Nat} {H : Heap} {v : V} {lens : List Nat} (h : Shape m H v lens) {fr : List V} (hv : v ∈ fr) : Shape m (trim L fr H) v lens := by
  obtain ⟨id, g, vs, rfl, h2, h3, h4, h5⟩ := h
  rcases trim_or L fr H with e | ⟨e, hu⟩
  · rw [e]; exact ⟨id, g, vs, rfl, h2, h3, h4, h5⟩
  · have hid := hu _ hv
    simp only [idsUnder, decide_eq_true_eq] at hid
    refine ⟨id, g, vs, rfl, trim_get h2 hid, h3, h4, fun i len hl => ?_⟩
    obtain ⟨x, q1, q2⟩ := h5 i len hl
    refine ⟨x, q1, ?_⟩
    rcases q2 with q2 | ⟨id', g', c, rfl, b, d, f⟩
    · exact .inl q2
    · refine .inr ⟨id', g', c, rfl, ?_, d, f⟩
      rcases trim_or' L fr H with e | ⟨_, _, hu⟩
      · rw [e]; exact b
      · exact trim_get b (hu _ _ _ hid h2 _ _ _ _ _ (List.mem_of_getElem? q1))
theorem Shape.row {m : Nat} {H : Heap} {v : V} {lens : List Nat} (h : Shape m H v lens) {i len : Nat} (hi : lens[i]? = some len) : ∃ a x, xIndexAddr 1 v (.s (.int .i64 i)) = some a ∧ xLoad H false 1 a = some x ∧ xLen H .s x = some (.s (.int .i64 len)) ∧
    ∀ (k base : Nat) (y : V), k < len → base ≤ m → y.one = true → ∃ b H', xIndexAddr 1 x (.s (.int .i64 k)) = some b ∧ storeV H base 1 y b = some H' ∧ Shape m H' v lens ∧ H'.length = H.length ∧ ∀ H0, H0.length ≤ m → Ext H0 H → Ext H0 H' := by
  obtain ⟨id, g, vs, rfl, h2, h3, h4, h5⟩ := h
  obtain ⟨x, q1, q2⟩ := h5 i len hi
  have hil := (List.getElem?_eq_some_iff.1 hi).1
  obtain ⟨e1, e2⟩ := at_sl h2 hil q1
  refine ⟨_, x, e1, e2, ?_, ?_⟩
  · rcases q2 with ⟨rfl, rfl | rfl⟩ | ⟨id', g', c, rfl, _⟩ <;> rfl
  · intro k base y hk hb hy
    rcases q2 with ⟨rfl, _⟩ | ⟨id', g', c, rfl, b, d, f⟩
    · omega
    · obtain ⟨f1, _⟩ := at_sl (w := c[k]'(by omega)) b hk (List.getElem?_eq_getElem (by omega))
      refine ⟨_, _, f1, storeV_at b (by omega) hy (by omega), ⟨id, g, vs, rfl, by rw [getC_other (by omega)]; exact h2, h3, h4, fun j len' hj => ?_⟩, List.length_set, fun H0 h0 he => he.set (by omega) _⟩
      obtain ⟨z, z1, z2⟩ := h5 j len' hj
      refine ⟨z, z1, ?_⟩
      rcases z2 with z2 | ⟨i2, g2, c2, rfl, b2, d2, f2⟩
      · exact .inl z2
      · by_cases hs : i2 = id'
        · subst hs
          have hg : g2 = g' := by
            unfold getC at b b2
            split at b <;> rename_i hh
            · split at b <;> rename_i h6
              · rw [hh] at b2
                simp only at b2
                split at b2 <;> rename_i h7
                · omega
                · cases b2
              · cases b
            · cases b
          subst hg
          rw [b] at b2
          cases b2
          exact .inr ⟨i2, g2, _, rfl, getC_put b, by rw [List.length_set]; exact d2, f2⟩
        · exact .inr ⟨i2, g2, c2, rfl, by rw [getC_other hs]; exact b2, d2, f2⟩
theorem mut_inner (call : CallF) (base m L : Nat) (g0 inn a : V) (lens : List Nat) (i len : Nat) (hb : base ≤ m) (hL : m ≤ L) (hi : lens[i]? = some len) (hlen : len < 2 ^ 62) : ∀ (d k : Nat) (H : Heap), k + d = len → Shape m H a lens →
    ∃ H', itW (evC call itW base s_gnomonlaw07_GraphForms_l0) [] L (frOf 56 [(0, g0), (3, inn), (4, a), (6, .s (.int .i64 i)), (7, .s (.int .i64 k))]) H = some (.ext 2, frOf 56 [(0, g0), (3, inn), (4, a), (6, .s (.int .i64 i)), (7, .s (.int .i64 len)), (41, .s (.bool false))], H') ∧ Shape m H' a lens ∧ ∀ H0, H0.length ≤ m → Ext H0 H → Ext H0 H' := by
  intro d
  induction d with
  | zero =>
    intro k H hk hs
    obtain rfl : k = len := by omega
    obtain ⟨ad, x, e1, e2, e3, _⟩ := hs.row hi
    refine ⟨trim L (frOf 56 [(0, g0), (3, inn), (4, a), (6, .s (.int .i64 i)), (7, .s (.int .i64 k)), (41, .s (.bool false))]) H, ?_, hs.trim (frOf_mem (s := 4) (by omega) rfl), fun H0 h0 he => he.trim (by omega) _⟩
    rw [itW_step]
    simp only [a_gnomonlaw07_GraphForms,s_gnomonlaw07_GraphForms_l0_b,s_gnomonlaw07_GraphForms_l1_b, am0,am1,am2,am3,am4,am5,am6,am7,bl,i64,reduceIte,reduceCtorEq,Nat.reduceEqDiff,Nat.reduceLT,Nat.reduceLeDiff,Nat.reduceBEq,Nat.reduceAdd,fillA,splice,Nat.reduceMul,al0,al1,al2,al3,al4,al5,al6,al7,al8,al9,al10,al11,al12,al13,al14,al15,al16,al17,al18,al19,al20,al21,al22,al23,al24,al25,al26,al27,al28,al29,al30,al31,al32,al33,al34, e1, e2, e3, Int.lt_irrefl]
  | succ d ih =>
    intro k H hk hs
    obtain ⟨ad, x, e1, e2, e3, e4⟩ := hs.row hi
    obtain ⟨b, H1, f1, f2, f3, _, f4⟩ := e4 k base (.s (.int .i64 (-9))) (by omega) hb rfl
    have hlt' : (k : Int) < (len : Int) := by omega
    have hwk := wrap_pos (n := k) (by omega)
    obtain ⟨H', p1, p2, p3⟩ := ih (k + 1) (trim L (frOf 56 [(0, g0), (3, inn), (4, a), (6, .s (.int .i64 i)), (7, .s (.int .i64 ((k + 1 : Nat) : Int)))]) H1) (by omega) (f3.trim (frOf_mem (s := 4) (by omega) rfl))
    refine ⟨H', ?_, p2, fun H0 h0 he => p3 H0 h0 ((f4 H0 h0 he).trim (by omega) _)⟩
    rw [itW_step]
    simp only [a_gnomonlaw07_GraphForms,s_gnomonlaw07_GraphForms_l0_b,s_gnomonlaw07_GraphForms_l1_b, am0,am1,am2,am3,am4,am5,am6,am7,bl,i64,reduceIte,reduceCtorEq,Nat.reduceEqDiff,Nat.reduceLT,Nat.reduceLeDiff,Nat.reduceBEq,Nat.reduceAdd,fillA,splice,Nat.reduceMul,al0,al1,al2,al3,al4,al5,al6,al7,al8,al9,al10,al11,al12,al13,al14,al15,al16,al17,al18,al19,al20,al21,al22,al23,al24,al25,al26,al27,al28,al29,al30,al31,al32,al33,al34, e1, e2, e3, hlt', hwk, f1, f2]
    exact p1
theorem mut_outer (call : CallF) (base m L : Nat) (g0 inn a : V) (lens : List Nat) (hb : base ≤ m) (hL : m ≤ L) (hlen : ∀ l ∈ lens, l < 2 ^ 62) (hn : lens.length < 2 ^ 62) : ∀ (d i : Nat) (H : Heap), i + d = lens.length → m ≤ H.length → Shape m H a lens →
    ∃ H', itW (evC call itW base s_gnomonlaw07_GraphForms_l1) [] L (frOf 56 [(0, g0), (3, inn), (4, a), (6, .s (.int .i64 i))]) H = some (.ext 0, frOf 56 [(0, g0), (3, inn), (4, a), (6, .s (.int .i64 lens.length)), (32, .s (.bool false))], H') ∧ Shape m H' a lens ∧ ∀ H0, H0.length ≤ m → Ext H0 H → Ext H0 H' := by
  intro d
  induction d with
  | zero =>
    intro i H hk hmH hs
    obtain rfl : i = lens.length := by omega
    have hal : xLen H .s a = some (.s (.int .i64 lens.length)) := by obtain ⟨id, g, vs, rfl, _⟩ := hs; rfl
    refine ⟨trim L (frOf 56 [(0, g0), (3, inn), (4, a), (6, .s (.int .i64 lens.length)), (32, .s (.bool false))]) H, ?_, hs.trim (frOf_mem (s := 4) (by omega) rfl), fun H0 h0 he => he.trim (by omega) _⟩
    rw [itW_step]
    simp only [a_gnomonlaw07_GraphForms,s_gnomonlaw07_GraphForms_l0_b,s_gnomonlaw07_GraphForms_l1_b, am0,am1,am2,am3,am4,am5,am6,am7,bl,i64,reduceIte,reduceCtorEq,Nat.reduceEqDiff,Nat.reduceLT,Nat.reduceLeDiff,Nat.reduceBEq,Nat.reduceAdd,fillA,splice,Nat.reduceMul,al0,al1,al2,al3,al4,al5,al6,al7,al8,al9,al10,al11,al12,al13,al14,al15,al16,al17,al18,al19,al20,al21,al22,al23,al24,al25,al26,al27,al28,al29,al30,al31,al32,al33,al34, hal, Int.lt_irrefl]
  | succ d ih =>
    intro i H hk hmH hs
    have hal : xLen H .s a = some (.s (.int .i64 lens.length)) := by obtain ⟨id, g, vs, rfl, _⟩ := hs; rfl
    have hil : i < lens.length := by omega
    have hi : lens[i]? = some lens[i] := List.getElem?_eq_getElem hil
    have hlt' : (i : Int) < (lens.length : Int) := by omega
    have hwk := wrap_pos (n := i) (by omega)
    obtain ⟨H1, q1, q2, q3⟩ := mut_inner call base m H.length g0 inn a lens i lens[i] hb hmH hi (hlen _ (List.getElem_mem hil)) lens[i] 0 H (by omega) hs
    rw [cast0] at q1
    have hm1 : m ≤ H1.length := by
      have := (q3 (H.take m) (by rw [List.length_take]; omega) ⟨H.drop m, (List.take_append_drop m H).symm⟩).le
      rw [List.length_take] at this
      omega
    obtain ⟨H', p1, p2, p3⟩ := ih (i + 1) (trim L (frOf 56 [(0, g0), (3, inn), (4, a), (6, .s (.int .i64 ((i + 1 : Nat) : Int)))]) H1) (by omega) (by
      rcases trim_or L (frOf 56 [(0, g0), (3, inn), (4, a), (6, .s (.int .i64 ((i + 1 : Nat) : Int)))]) H1 with e | ⟨e, _⟩ <;> rw [e]
      · exact hm1
      · rw [List.length_take]; omega) (q2.trim (frOf_mem (s := 4) (by omega) rfl))
    refine ⟨H', ?_, p2, fun H0 h0 he => p3 H0 h0 ((q3 H0 h0 he).trim (by omega) _)⟩
    rw [itW_step]
    simp only [a_gnomonlaw07_GraphForms,s_gnomonlaw07_GraphForms_l0_b,s_gnomonlaw07_GraphForms_l1_b, am0,am1,am2,am3,am4,am5,am6,am7,bl,i64,reduceIte,reduceCtorEq,Nat.reduceEqDiff,Nat.reduceLT,Nat.reduceLeDiff,Nat.reduceBEq,Nat.reduceAdd,fillA,splice,Nat.reduceMul,al0,al1,al2,al3,al4,al5,al6,al7,al8,al9,al10,al11,al12,al13,al14,al15,al16,al17,al18,al19,al20,al21,al22,al23,al24,al25,al26,al27,al28,al29,al30,al31,al32,al33,al34, hal, hlt', hwk, q1]
    exact p1
theorem backFrom_le (n : Nat) : ∀ (N : List (List Int)) (i : Nat) (R : List (List Int)) (B : Nat), (∀ r ∈ N, ∀ x ∈ r, 0 ≤ x ∧ x < (n : Int)) → R.length = n → (∀ q ∈ R, q.length + sumLen N ≤ B) → ∀ q ∈ backFrom i N R, q.length ≤ B := by
  intro N
  induction N with
  | nil => intro i R B _ _ h q hq; exact h q hq
  | cons r N ih =>
    intro i R B hin hR h q hq
    by_cases h0 : sumLen N ≤ B
    · refine ih (i + 1) (r.foldl (bump i) R) B (fun r hr => hin r (List.mem_cons_of_mem _ hr)) (by rw [bumps_len]; exact hR) (fun q hq => ?_) q hq
      have := bumps_le i r R (B - sumLen N) (fun x hx => by rw [hR]; exact hin r List.mem_cons_self x hx) (fun q hq => by have := h q hq; simp only [sumLen] at this; omega) q hq
      omega
    · match R, hq with
      | [], hq =>
        have := backFrom_len (r :: N) i []
        rw [List.length_nil] at this
        rw [List.eq_nil_of_length_eq_zero this] at hq
        cases hq
      | q0 :: R, _ => have := h q0 List.mem_cons_self; simp only [sumLen] at this; omega
theorem sum_map : ∀ (G : List (List Int)) (f : List Int → List Int), (∀ r, (f r).length ≤ r.length) → sumLen (G.map f) ≤ sumLen G := by
  intro G
  induction G with
  | nil => intro f _; exact Nat.le_refl _
  | cons r G ih => intro f h; have h1 := h r; have h2 := ih f h; simp only [List.map_cons, sumLen]; omega
theorem normG_sum (G : List (List Int)) : sumLen (normG G) ≤ sumLen G := sum_map G _ fun r => normR_len _ r
theorem forms_law {CT : Nat → Option CFun} (h : CG CT) (hF : CT k_gnomonlaw07_GraphForms = some (.code s_gnomonlaw07_GraphForms)) (hg : CT k_gnomonlaw07_great = some (.code s_gnomonlaw07_great)) (ho : CT k_gnomonlaw07_own = some (.code s_gnomonlaw07_own)) (hS1 : CT k_gnomonref01_Same = some (.code s_gnomonref01_Same)) (hS7 : CT k_gnomonref07_Same = some (.code s_gnomonref07_Same))
    (hA : CT k_gnomonref01_Add = some (.code s_gnomonref01_Add)) (hH : CT k_gnomonref01_Has = some (.code s_gnomonref01_Has)) (hN : CT k_gnomonref07_Norm = some (.code s_gnomonref07_Norm)) (hB : CT k_gnomonref07_Back = some (.code s_gnomonref07_Back)) (hW : ∀ base H, callW CT (.fn k_gnomonlaw07_wakes [] []) [] base H = some (bl true, H))
    (base : Nat) (H : Heap) (hb : base ≤ H.length) (v : V) (G : List (List Int)) (hv : RdRows H v (rowsV G)) : ∃ H', callW CT (.fn k_gnomonlaw07_GraphForms [] []) [v] base H = some (bl true, H') := by
  have hgr := great_fun hg base H v G hv
  cases hG : greatG G with
  | true =>
    rw [hG] at hgr
    refine ⟨H, callW_fn (c := s_gnomonlaw07_GraphForms) hF (by simp [s_gnomonlaw07_GraphForms]) ?_⟩
    simp only [s_gnomonlaw07_GraphForms, a_gnomonlaw07_GraphForms,s_gnomonlaw07_GraphForms_l0_b,s_gnomonlaw07_GraphForms_l1_b, am0,am1,am2,am3,am4,am5,am6,am7,bl,i64,reduceIte,reduceCtorEq,Nat.reduceEqDiff,Nat.reduceLT,Nat.reduceLeDiff,Nat.reduceBEq,Nat.reduceAdd,fillA,splice,Nat.reduceMul,al0,al1,al2,al3,al4,al5,al6,al7,al8,al9,al10,al11,al12,al13,al14,al15,al16,al17,al18,al19,al20,al21,al22,al23,al24,al25,al26,al27,al28,al29,al30,al31,al32,al33,al34, hgr, hW, bl]
  | false =>
    rw [hG] at hgr
    obtain ⟨hn, hsum, hr⟩ := greatG_small hG
    have hr' : ∀ r ∈ G, r.length < 2 ^ 20 := fun r hrr => by have := hr r hrr; omega
    have hr2 : ∀ r ∈ G, r.length < 2 ^ 39 := fun r hrr => by have := hr r hrr; omega
    have hr3 : ∀ r ∈ G, r.length < 2 ^ 40 := fun r hrr => by have := hr r hrr; omega
    obtain ⟨inn, H1, a1, a2, a3⟩ := own_fun ho base H v G hv hb (by omega) hr3
    have l1 := a2.le
    obtain ⟨a, H2, b1, b2, b3⟩ := norm_f h base H1 inn G a3 (by omega) (by omega) hr3
    have l2 := b2.le
    obtain ⟨b, H3, c1, c2, c3⟩ := back_f h base H2 inn G (a3.ext b2) (by omega) (by omega) hr'
    have l3 := c2.le
    have e3 := (a2.trans b2).trans c2
    obtain ⟨na, H4, d1, d2, d3⟩ := refN_fun hA hH hN base H3 v G (hv.ext e3) (by omega) (by omega) hr2
    have l4 := d2.le
    have f1 := sameG_fun hS7 hS1 base H4 a na (normG G) (refN G) (b3.rd.ext (c2.trans d2)) d3 (by rw [normG_len]; omega) (fun r hrr => by have := normG_small hr2 r hrr; omega)
    rw [normG_ref, show (refN G == refN G) = true from BEq.rfl] at f1
    obtain ⟨nb, H5, g1, g2, g3⟩ := rback_fun hA hH hN hB base H4 v G (hv.ext (e3.trans d2)) (by omega) (by omega) hr'
    have l5 := g2.le
    have bsmall : ∀ r ∈ backG G, r.length < 2 ^ 62 := by
      intro r hrr
      have := backFrom_le G.length (normG G) 0 (List.replicate G.length []) 3000 (fun r hr x hx => normG_in hr hx) (by simp) (fun q hq => by
        rw [List.mem_replicate] at hq
        rw [hq.2]
        have := normG_sum G
        simp only [List.length_nil]; omega) r hrr
      omega
    have i1 := sameG_fun hS7 hS1 base H5 b nb (backG G) (backG G) (c3.ext (d2.trans g2)) g3 (by rw [backG_len]; omega) bsmall
    rw [show (backG G == backG G) = true from BEq.rfl] at i1
    have hsh : Shape H1.length H5 a ((normG G).map List.length) := OwnRows.shape (b3.ext ((c2.trans d2).trans g2))
    obtain ⟨H6, p1, p2, p3⟩ := mut_outer (callW CT) base H1.length H5.length v inn a ((normG G).map List.length) (by omega) (by omega) (fun l hl => by
      obtain ⟨r, hrr, rfl⟩ := List.mem_map.1 hl
      have := normG_small hr2 r hrr; omega) (by rw [List.length_map, normG_len]; omega) ((normG G).map List.length).length 0 H5 (by omega) (by omega) hsh
    rw [cast0] at p1
    have e6 : Ext H1 H6 := p3 H1 (Nat.le_refl _) (((b2.trans c2).trans d2).trans g2)
    have j1 := sameG_fun hS7 hS1 base H6 inn v G G (a3.ext e6) (hv.ext (a2.trans e6)) (by omega) (fun r hrr => by have := hr r hrr; omega)
    rw [show (G == G) = true from BEq.rfl] at j1
    refine ⟨H6, callW_fn (c := s_gnomonlaw07_GraphForms) hF (by simp [s_gnomonlaw07_GraphForms]) ?_⟩
    simp only [s_gnomonlaw07_GraphForms, a_gnomonlaw07_GraphForms,s_gnomonlaw07_GraphForms_l0_b,s_gnomonlaw07_GraphForms_l1_b, am0,am1,am2,am3,am4,am5,am6,am7,bl,i64,reduceIte,reduceCtorEq,Nat.reduceEqDiff,Nat.reduceLT,Nat.reduceLeDiff,Nat.reduceBEq,Nat.reduceAdd,fillA,splice,Nat.reduceMul,al0,al1,al2,al3,al4,al5,al6,al7,al8,al9,al10,al11,al12,al13,al14,al15,al16,al17,al18,al19,al20,al21,al22,al23,al24,al25,al26,al27,al28,al29,al30,al31,al32,al33,al34, hgr, a1, b1, c1, d1, f1, g1, i1, p1, j1, hW, bl]
end Go.Proofs.Ytmnlagcmpgilaaa
