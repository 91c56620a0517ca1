/- Texts of the proof: BitsP5, BitsX. -/
import Derived.Test.YtccallbknpbggaaDoorP0
import Derived.Test.YtccallbknpbggaaDoorP1
import Derived.Test.YtccallbknpbggaaDoorP2
import Derived.Test.YtccallbknpbggaaDoorP3
import Derived.Test.YtccallbknpbggaaDoorP4
import Derived.Test.YtccallbknpbggaaDoorP5
import Derived.Test.YtccallbknpbggaaDoorP6
set_option linter.all false
set_option maxRecDepth 100000
namespace Go.Proofs.YtccallbknpbggaaDoor
open Go.AM
def fn4 (a b c d : Nat) : Nat → Nat := fun k => match k with | 0 => a | 1 => b | 2 => c | _ => d
theorem fn4_0 (a b c d : Nat) : fn4 a b c d 0 = a := rfl
theorem fn4_1 (a b c d : Nat) : fn4 a b c d 1 = b := rfl
theorem fn4_2 (a b c d : Nat) : fn4 a b c d 2 = c := rfl
theorem fn4_3 (a b c d : Nat) : fn4 a b c d 3 = d := rfl
section
variable {CT : Nat → Option CFun} {oS oW : Nat} {va : V}
theorem plays_loop (h : TD CT) (r : RF CT) (hT : CT k_gnomonlaw01_tells = some (.code s_gnomonlaw01_tells)) (hP : CT k_gnomonlaw01_place = some (.code s_gnomonlaw01_place)) {l : List Act4} (hva : ∀ H, RdW 4 H va (l.map actR)) (hl : l.length ≤ 150) (hx : ∀ x ∈ l, x.2.2.2 < 2 ^ 63 ∧ x.2.2.1 < 2 ^ 63) {m : Nat} (hS : oS < m) (hW : oW < m) :
    ∀ (d n : Nat) (H : Heap) (I J : Nat → Nat) (P : Nat → WS) (vs : Nat → V) (U : List Int), n + d = l.length → PL H oS oW I J P vs (fun k => el (P k)) → U.length ≤ 3 * n → (∀ k, k < 4 → ∀ y ∈ el (P k), y ∈ U) → m ≤ H.length →
    ∃ H', itW (evC (callW CT) itW 0 s_gnomonlaw01_BitsPlays_l1) [] m (frOf 291 [(0, va), (3, .sl oS 0 0 4 1), (4, .sl oW 0 0 4 1), (5, .s (.int .i64 (n : Nat)))]) H = some (.ext 0, frOf 291 [(0, va), (3, .sl oS 0 0 4 1), (4, .sl oW 0 0 4 1), (5, .s (.int .i64 (l.length : Nat))), (25, .s (.bool false))], H') := by
  intro d
  induction d with
  | zero =>
    intro n H I J P vs U hn hp hU hc hm
    have hn : n = l.length := by omega
    subst hn
    have hlen := fun H => (hva H).len
    simp only [List.length_map] at hlen
    rw [itW_step]
    simp only [a_gnomonlaw01_BitsPlays,s_gnomonlaw01_BitsPlays_l0_b,s_gnomonlaw01_BitsPlays_l1_b, am0,am1,am2,am3,am4,am5,am6,am7,bl,i64,reduceIte,reduceCtorEq,Nat.reduceEqDiff,Nat.reduceLT,Nat.reduceLeDiff,Nat.reduceBEq,Nat.reduceAdd,fillA,splice,Nat.reduceMul,al0,al1,al2,al3,al4,al5,al6,al7,al8,al9,al10,al11,al12,al13,al14,al15,al16,al17,al18,al19,al20,al21,al22,al23,al24,al25,al26,al27,al28,al29,al30,al31,al32,al33,al34,amY,op_eqP, hlen, Int.lt_irrefl]
    exact ⟨_, rfl⟩
  | succ d ih =>
    intro n H I J P vs U hn hp hU hc hm
    have hlt : n < l.length := by omega
    obtain ⟨h1, h2⟩ := hx l[n] (List.getElem_mem hlt)
    obtain ⟨H1, I1, J1, P1, vs1, e1, p1, g1, c1⟩ := plays_round h r hT hP hva hp (U := U) (by omega) hc (n := n) (by omega) (List.getElem?_eq_getElem hlt) h1 h2
    obtain ⟨H2, e2⟩ := ih (n + 1) (trim m (frOf 291 [(0, va), (3, .sl oS 0 0 4 1), (4, .sl oW 0 0 4 1), (5, .s (.int .i64 (n + 1 : Nat)))]) H1) I1 J1 P1 vs1 _ (by omega) (p1.trim hS hW _) (by simp; omega) c1 (trim_le (by omega))
    refine ⟨H2, ?_⟩
    rw [itW_step, e1, stepW_nrm]
    exact e2
theorem plays_law (h : TD CT) (r : RF CT) (hT : CT k_gnomonlaw01_tells = some (.code s_gnomonlaw01_tells)) (hP : CT k_gnomonlaw01_place = some (.code s_gnomonlaw01_place)) (hF : CT k_gnomonlaw01_BitsPlays = some (.code s_gnomonlaw01_BitsPlays)) (hwk : ∀ base H, callW CT (.fn k_gnomonlaw01_wakes [] []) [] base H = some (.s (.bool true), H)) {l : List Act4} (hva : ∀ H, RdW 4 H va (l.map actR)) (hx : ∀ x ∈ l, x.2.2.2 < 2 ^ 63 ∧ x.2.2.1 < 2 ^ 63) :
    ∃ H', callW CT (.fn k_gnomonlaw01_BitsPlays [] []) [va] 0 [] = some (.s (.bool true), H') := by
  have hlen := fun H => (hva H).len
  simp only [List.length_map] at hlen
  by_cases hg : (l.length : Int) > 150
  · refine ⟨[], callW_fn (c := s_gnomonlaw01_BitsPlays) hF (by simp [s_gnomonlaw01_BitsPlays]) ?_⟩
    simp only [s_gnomonlaw01_BitsPlays, a_gnomonlaw01_BitsPlays,s_gnomonlaw01_BitsPlays_l0_b,s_gnomonlaw01_BitsPlays_l1_b, am0,am1,am2,am3,am4,am5,am6,am7,bl,i64,reduceIte,reduceCtorEq,Nat.reduceEqDiff,Nat.reduceLT,Nat.reduceLeDiff,Nat.reduceBEq,Nat.reduceAdd,fillA,splice,Nat.reduceMul,al0,al1,al2,al3,al4,al5,al6,al7,al8,al9,al10,al11,al12,al13,al14,al15,al16,al17,al18,al19,al20,al21,al22,al23,al24,al25,al26,al27,al28,al29,al30,al31,al32,al33,al34,amY,op_eqP, hlen, hg, hwk]
    done
  have hl : l.length ≤ 150 := by omega
  obtain ⟨A1, e1, s1, k1, l1⟩ := of_P h.toTB 0 (H := []) (v := nilS) (l := []) (Rd.nil _) trivial (by decide) (fun x hx => by cases hx) (Nat.zero_le _)
  obtain ⟨A2, e2, s2, k2, l2⟩ := of_P h.toTB 0 (H := A1) (v := nilS) (l := []) (Rd.nil _) trivial (by decide) (fun x hx => by cases hx) (Nat.zero_le _)
  obtain ⟨A3, e3, s3, k3, l3⟩ := of_P h.toTB 0 (H := A2) (v := nilS) (l := []) (Rd.nil _) trivial (by decide) (fun x hx => by cases hx) (Nat.zero_le _)
  obtain ⟨A4, e4, s4, k4, l4⟩ := of_P h.toTB 0 (H := A3) (v := nilS) (l := []) (Rd.nil _) trivial (by decide) (fun x hx => by cases hx) (Nat.zero_le _)
  have q1 := (k4.d []).s ((k3.d []).s ((k2.d []).s s1))
  have q2 := (k4.d []).s ((k3.d []).s s2)
  have q3 := (k4.d []).s s3
  have mk : ∀ (fr : List V) (H : Heap), evOp (callW CT) 0 fr H (AOp.mkSl [V.s (Value.slice none 0 0)] 1 24 (Opd.c (V.s (Value.int IntKind.i64 4))) (Opd.c (V.s (Value.int IntKind.i64 4)))) = some (.sl H.length 0 0 4 1, H ++ [.cells 0 [.s (.slice none 0 0), .s (.slice none 0 0), .s (.slice none 0 0), .s (.slice none 0 0)]]) := fun fr H => make_n (k := .i64) (k' := .i64) (n := 4) (by decide)
  simp only [List.length_nil] at *
  obtain ⟨A5, h5⟩ : ∃ A5, A4 ++ [Ob.cells 0 [.ref (0 + 1) 0 0, .ref (A1.length + 1) 0 0, .ref (A2.length + 1) 0 0, .ref (A3.length + 1) 0 0]] = A5 := ⟨_, rfl⟩
  obtain ⟨A6, h6⟩ : ∃ A6, A5 ++ [Ob.cells 0 [nilS, nilS, nilS, nilS]] = A6 := ⟨_, rfl⟩
  have k5 : KeepD A4.length [] A4 A5 := ⟨by rw [← h5]; simp, fun id h1 _ => by rw [← h5, List.getElem?_append_left h1]⟩
  have k6 : KeepD A5.length [] A5 A6 := ⟨by rw [← h6]; simp, fun id h1 _ => by rw [← h6, List.getElem?_append_left h1]⟩
  have len5 : A5.length = A4.length + 1 := by rw [← h5]; simp
  have len6 : A6.length = A5.length + 1 := by rw [← h6]; simp
  have g5 : getC A6 A4.length 0 = some [.ref (0 + 1) 0 0, .ref (A1.length + 1) 0 0, .ref (A2.length + 1) 0 0, .ref (A3.length + 1) 0 0] := by
    rw [← h6, ← h5]; exact getC_app (getC_new _ _ _)
  have g6 : getC A6 A5.length 0 = some [nilS, nilS, nilS, nilS] := by rw [← h6]; exact getC_new _ _ _
  have pl : PL A6 A4.length A5.length (fn4 (0 + 1) (A1.length + 1) (A2.length + 1) (A3.length + 1)) (fn4 0 A1.length A2.length A3.length) (fun _ => ofP [] noP) (fun _ => nilS) (fun _ => el (ofP [] noP)) := by
    refine ⟨g5, g6, ?_, fun k _ => .inl ⟨rfl, rfl⟩, ?_⟩
    · intro k hk
      match k, hk with
      | 0, _ => exact k6.s (k5.s q1)
      | 1, _ => exact k6.s (k5.s q2)
      | 2, _ => exact k6.s (k5.s q3)
      | 3, _ => exact k6.s (k5.s s4)
    · intro k k' hk hk' hne
      match k, k', hk, hk' with
      | 0, 0, _, _ | 1, 1, _, _ | 2, 2, _, _ | 3, 3, _, _ => exact absurd rfl hne
      | 0, 1, _, _ | 0, 2, _, _ | 0, 3, _, _ | 1, 0, _, _ | 1, 2, _, _ | 1, 3, _, _ | 2, 0, _, _ | 2, 1, _, _ | 2, 3, _, _ | 3, 0, _, _ | 3, 1, _, _ | 3, 2, _, _ => simp only [fn4_0, fn4_1, fn4_2, fn4_3]; constructor <;> omega
  obtain ⟨A7, e7⟩ := plays_loop (va := va) h r hT hP hva hl hx (m := A6.length) (by omega) (by omega) l.length 0 A6 _ _ _ _ [] (by omega) pl (by simp) (fun k hk y hy => by cases hy) (Nat.le_refl _)
  rw [cast0] at e7
  refine ⟨A7, callW_fn (c := s_gnomonlaw01_BitsPlays) hF (by simp [s_gnomonlaw01_BitsPlays]) ?_⟩
  simp only [nilS] at e1 e2 e3 e4 h6
  simp only [s_gnomonlaw01_BitsPlays, a_gnomonlaw01_BitsPlays,s_gnomonlaw01_BitsPlays_l0_b,s_gnomonlaw01_BitsPlays_l1_b, am0,am1,am2,am3,am4,am5,am6,am7,bl,i64,reduceIte,reduceCtorEq,Nat.reduceEqDiff,Nat.reduceLT,Nat.reduceLeDiff,Nat.reduceBEq,Nat.reduceAdd,fillA,splice,Nat.reduceMul,al0,al1,al2,al3,al4,al5,al6,al7,al8,al9,al10,al11,al12,al13,al14,al15,al16,al17,al18,al19,al20,al21,al22,al23,al24,al25,al26,al27,al28,al29,al30,al31,al32,al33,al34,amY,op_eqP, hlen, hg, e1, e2, e3, e4, h5, mk, h6, e7, hwk]
  done
end
end Go.Proofs.YtccallbknpbggaaDoor
set_option maxRecDepth 100000
namespace Go.Proofs.YtccallbknpbggaaDoor
open Go.AM
def AOk (u : V) : Prop := ∃ l : List Act4, (∀ H, RdW 4 H u (l.map actR)) ∧ ∀ x ∈ l, x.2.2.2 < 2 ^ 63 ∧ x.2.2.1 < 2 ^ 63
theorem act_of {r : List V} (h : IsV (.st [.int .i64, .int .i64, .int .i64, .int .i64]) r) : ∃ x : Act4, r = actR x ∧ x.2.2.2 < 2 ^ 63 ∧ x.2.2.1 < 2 ^ 63 := by
  obtain ⟨a, b, rfl, h1, c, d, rfl, h2, e, f, rfl, h3, g, i, rfl, h4, h5⟩ := h
  obtain ⟨n1, rfl, _⟩ := int_arg h1
  obtain ⟨n2, rfl, _⟩ := int_arg h2
  obtain ⟨n3, rfl, l3⟩ := int_arg h3
  obtain ⟨n4, rfl, l4⟩ := int_arg h4
  have hd : i = [] := h5
  subst hd
  exact ⟨(n1, n2, n3, n4), rfl, l4, l3⟩
theorem acts_of : ∀ es : List (List V), (∀ x ∈ es, IsV (.st [.int .i64, .int .i64, .int .i64, .int .i64]) x) → ∃ L : List Act4, es = L.map actR ∧ ∀ x ∈ L, x.2.2.2 < 2 ^ 63 ∧ x.2.2.1 < 2 ^ 63 := by
  intro es
  induction es with
  | nil => intro _; exact ⟨[], rfl, fun e h => by cases h⟩
  | cons r es ih =>
    intro h
    obtain ⟨e, rfl, he⟩ := act_of (h r List.mem_cons_self)
    obtain ⟨L, rfl, hL⟩ := ih fun x hx => h x (List.mem_cons_of_mem _ hx)
    refine ⟨e :: L, rfl, fun x hx => ?_⟩
    rcases List.mem_cons.1 hx with rfl | hx
    · exact he
    · exact hL x hx
theorem acts_arg {v : List V} (h : IsV (.sl (.st [.int .i64, .int .i64, .int .i64, .int .i64])) v) : ∃ u, v = [u] ∧ AOk u := by
  rcases h with rfl | ⟨es, rfl, hl, he⟩
  · exact ⟨nilS, rfl, [], fun H => RdW.nil 4 H, fun e h => by cases h⟩
  · obtain ⟨L, rfl, hL⟩ := acts_of es he
    exact ⟨_, rfl, L, fun H => RdW.psl H (fun r hr => by obtain ⟨e, _, rfl⟩ := List.mem_map.1 hr; rfl), hL⟩
end Go.Proofs.YtccallbknpbggaaDoor
