/- Texts of the proof: BitsF9, BitsF10, BitsF11, BitsF12, BitsF13, BitsF14, AmK, BitsC, AmV, AmR, BitsE, BitsS2, RefF1. -/
import Derived.Test.YtccallbknpbggaaDoorP0
import Derived.Test.YtccallbknpbggaaDoorP1
import Derived.Test.YtccallbknpbggaaDoorP2
import Derived.Test.YtccallbknpbggaaDoorP3
import Derived.Test.YtccallbknpbggaaDoorProg
import Derived.KernelRfl
import Derived.ProofKit
import Derived.OpenShut
import Derived.ChangeArms
import Derived.FnData
import Derived.DataReads
import Derived.ChangeOld
import Derived.LaidMore
import Derived.Stop.Joined
import Derived.SevenTiedAt
import Derived.Test.YtccallbknpbggaaDoorRows
import Derived.Test.YtccallbknpbggaaDoorCards
import Derived.Test.YtccallbknpbggaaDoorTie
set_option linter.all false
set_option maxRecDepth 100000
namespace Go.Proofs.YtccallbknpbggaaDoor
open Go.AM
structure TC (CT : Nat → Option CFun) : Prop extends TB CT where
  pick : CT k_bits_Set_pick = some (.code s_bits_Set_pick)
  minus : CT k_bits_Set_Minus = some (.code s_bits_Set_Minus)
  both : CT k_bits_Set_Both = some (.code s_bits_Set_Both)
  minus1 : CT k_bits_Set_Minus_1 = some (.code s_bits_Set_Minus_1)
  both1 : CT k_bits_Set_Both_1 = some (.code s_bits_Set_Both_1)
  drop : CT k_bits_Set_Drop = some (.code s_bits_Set_Drop)
  copy : CT k_bits_Set_Copy = some (.code s_bits_Set_Copy)
  clone : CT k_maps_Clone = some (.prim cloneG)
  in' : CT k_bits_Set_In = some (.code s_bits_Set_In)
  same : CT k_bits_Set_Same = some (.code s_bits_Set_Same)
  union : CT k_bits_Set_Union = some (.code s_bits_Set_Union)
section
variable {CT : Nat → Option CFun}
structure AtV (CT : Nat → Option CFun) (H : Heap) (v : V) (g : Int → Nat) : Prop where
  one : v.one = true
  lt : ∀ k, g k < 2 ^ 64
  at' : ∀ H', KeepD H.length [] H H' → ∀ base k, callW CT (.fn k_bits_Set_at [] []) [v, .s (.int .i64 k)] base H' = some (.s (.int .u64 (g k)), H')
theorem AtV.set (h : TB CT) {H : Heap} {i j : Nat} {p : WS} (hp : SetP H i j p) : AtV CT H (.ref i 0 0) p.2 :=
  ⟨rfl, hp.wd.lt, fun H' hk base k => at_fun h.at' base (hk.setP hp (SetW.lt hp) ⟨by simp, by simp⟩) k⟩
theorem AtV.nil (h : TB CT) (H : Heap) : AtV CT H (.s (.pointer none)) (fun _ => 0) := ⟨rfl, fun _ => by decide, fun H' _ base k => at_nil h.at' base H' k⟩
theorem AtV.mono {H H' : Heap} {v : V} {g : Int → Nat} (h : AtV CT H v g) (hk : KeepD H.length [] H H') : AtV CT H' v g := ⟨h.one, h.lt, fun H2 hk2 base k => h.at' H2 (hk.trans hk2 hk.1) base k⟩
theorem minus1_fun (h : TC CT) (a b : Nat) (base : Nat) (H : Heap) (ha : a < 2 ^ 64) (hb : b < 2 ^ 64) : callW CT (.fn k_bits_Set_Minus_1 [] []) [.s (.int .u64 a), .s (.int .u64 b)] base H = some (.s (.int .u64 (andNot a b)), H) := by
  refine callW_fn (c := s_bits_Set_Minus_1) h.minus1 (by simp [s_bits_Set_Minus_1]) ?_
  have := w64_andNot a b ha hb
  simp only [s_bits_Set_Minus_1, a_bits_Set_Minus_1, am0,am1,am2,am3,am4,am5,am6,am7,bl,i64,reduceIte,reduceCtorEq,Nat.reduceEqDiff,Nat.reduceLT,Nat.reduceLeDiff,Nat.reduceBEq,Nat.reduceAdd,fillA,splice,Nat.reduceMul,al0,al1,al2,al3,al4,al5,al6,al7,al8,al9,al10,al11,al12,al13,al14,al15,al16,al17,al18,al19,al20,al21,al22,al23,al24,al25,al26,al27,al28,al29,al30,al31,al32,al33,al34,amY,op_eqP, ↓this, this]
theorem both1_fun (h : TC CT) (a b : Nat) (base : Nat) (H : Heap) (ha : a < 2 ^ 64) (hb : b < 2 ^ 64) : callW CT (.fn k_bits_Set_Both_1 [] []) [.s (.int .u64 a), .s (.int .u64 b)] base H = some (.s (.int .u64 (a &&& b : Nat)), H) := by
  refine callW_fn (c := s_bits_Set_Both_1) h.both1 (by simp [s_bits_Set_Both_1]) ?_
  have := w64_and a b ha hb
  simp only [s_bits_Set_Both_1, a_bits_Set_Both_1, am0,am1,am2,am3,am4,am5,am6,am7,bl,i64,reduceIte,reduceCtorEq,Nat.reduceEqDiff,Nat.reduceLT,Nat.reduceLeDiff,Nat.reduceBEq,Nat.reduceAdd,fillA,splice,Nat.reduceMul,al0,al1,al2,al3,al4,al5,al6,al7,al8,al9,al10,al11,al12,al13,al14,al15,al16,al17,al18,al19,al20,al21,al22,al23,al24,al25,al26,al27,al28,al29,al30,al31,al32,al33,al34,amY,op_eqP, ↓this, this]
theorem minus_P (h : TC CT) (base : Nat) {H : Heap} {i j : Nat} {p : WS} (hp : SetP H i j p) (hl : cnt p ≤ 2 ^ 43) {ov : V} {g : Int → Nat} (ho : AtV CT H ov g) (hb : base ≤ H.length) :
    ∃ i' j' H', callW CT (.fn k_bits_Set_Minus [] []) [.ref i 0 0, ov] base H = some (.ref i' 0 0, H') ∧ SetP H' i' j' (pickP p g andNot) ∧ KeepD H.length [] H H' ∧ H.length ≤ i' ∧ H.length ≤ j' := by
  obtain ⟨i', j', H', h1, h2⟩ := pick_P h.toTB h.pick base hp hl (hv := .fn k_bits_Set_Minus_1 [] []) ho.one rfl hb ho.at' (fun a b base H => minus1_fun h a b base H) ho.lt (fun k => andNot_lt _ _ (hp.wd.lt k))
  refine ⟨i', j', H', ?_, h2⟩
  refine callW_fn (c := s_bits_Set_Minus) h.minus (by simp [s_bits_Set_Minus]) ?_
  simp only [s_bits_Set_Minus, a_bits_Set_Minus, am0,am1,am2,am3,am4,am5,am6,am7,bl,i64,reduceIte,reduceCtorEq,Nat.reduceEqDiff,Nat.reduceLT,Nat.reduceLeDiff,Nat.reduceBEq,Nat.reduceAdd,fillA,splice,Nat.reduceMul,al0,al1,al2,al3,al4,al5,al6,al7,al8,al9,al10,al11,al12,al13,al14,al15,al16,al17,al18,al19,al20,al21,al22,al23,al24,al25,al26,al27,al28,al29,al30,al31,al32,al33,al34,amY,op_eqP, h1]
theorem both_P (h : TC CT) (base : Nat) {H : Heap} {i j : Nat} {p : WS} (hp : SetP H i j p) (hl : cnt p ≤ 2 ^ 43) {ov : V} {g : Int → Nat} (ho : AtV CT H ov g) (hb : base ≤ H.length) :
    ∃ i' j' H', callW CT (.fn k_bits_Set_Both [] []) [.ref i 0 0, ov] base H = some (.ref i' 0 0, H') ∧ SetP H' i' j' (pickP p g (· &&& ·)) ∧ KeepD H.length [] H H' ∧ H.length ≤ i' ∧ H.length ≤ j' := by
  obtain ⟨i', j', H', h1, h2⟩ := pick_P h.toTB h.pick base hp hl (hv := .fn k_bits_Set_Both_1 [] []) (how := (· &&& ·)) ho.one rfl hb ho.at' (fun a b base H => both1_fun h a b base H) ho.lt (fun k => Nat.lt_of_le_of_lt Nat.and_le_left (hp.wd.lt k))
  refine ⟨i', j', H', ?_, h2⟩
  refine callW_fn (c := s_bits_Set_Both) h.both (by simp [s_bits_Set_Both]) ?_
  simp only [s_bits_Set_Both, a_bits_Set_Both, am0,am1,am2,am3,am4,am5,am6,am7,bl,i64,reduceIte,reduceCtorEq,Nat.reduceEqDiff,Nat.reduceLT,Nat.reduceLeDiff,Nat.reduceBEq,Nat.reduceAdd,fillA,splice,Nat.reduceMul,al0,al1,al2,al3,al4,al5,al6,al7,al8,al9,al10,al11,al12,al13,al14,al15,al16,al17,al18,al19,al20,al21,al22,al23,al24,al25,al26,al27,al28,al29,al30,al31,al32,al33,al34,amY,op_eqP, h1]
theorem drop_P (h : TC CT) (base : Nat) {H : Heap} {i j : Nat} {p : WS} (hp : SetP H i j p) (hi : base ≤ i) (hj : base ≤ j) (x : Int) (hx : x < 2 ^ 63) (hl : cnt p < 2 ^ 61) :
    callW CT (.fn k_bits_Set_Drop [] []) [.ref i 0 0, .s (.int .i64 x)] base H = some (.s (.bool (hasF p.2 x)), putPH H i j (dropP p x)) := by
  have hh := fun base => has_P h.toTB base hp x hx
  refine callW_fn (c := s_bits_Set_Drop) h.drop (by simp [s_bits_Set_Drop]) ?_
  cases hq : hasF p.2 x with
  | false =>
    have he : dropP p x = p := by unfold dropP; rw [if_neg]; rw [hq]; simp
    simp only [s_bits_Set_Drop, a_bits_Set_Drop, am0,am1,am2,am3,am4,am5,am6,am7,bl,i64,reduceIte,reduceCtorEq,Nat.reduceEqDiff,Nat.reduceLT,Nat.reduceLeDiff,Nat.reduceBEq,Nat.reduceAdd,fillA,splice,Nat.reduceMul,al0,al1,al2,al3,al4,al5,al6,al7,al8,al9,al10,al11,al12,al13,al14,al15,al16,al17,al18,al19,al20,al21,al22,al23,al24,al25,al26,al27,al28,al29,al30,al31,al32,al33,al34,amY,op_eqP, hh, hq, he, putPH_same hp]
    done
  | true =>
    have h0 : 0 ≤ x := by
      unfold hasF at hq
      simp only [Bool.and_eq_true, decide_eq_true_eq] at hq
      exact hq.1
    have he : dropP p x = putP p (x / 64) (andNot (p.2 (x / 64)) (2 ^ (x % 64).toNat)) := by unfold dropP; rw [if_pos hq]; rfl
    have s6 := fun j => i64_shr6 x j
    have a6 := i64_and63 x ⟨h0, hx⟩
    have hs := w64_shl 1 (x % 64).toNat .i64 (by omega) (by rw [Nat.one_mul]; exact bit_lt64 x)
    rw [Nat.one_mul, show ((1 : Nat) : Int) = 1 from rfl] at hs
    have ho := w64_andNot (p.2 (x / 64)) (2 ^ (x % 64).toNat) (hp.wd.lt _) (bit_lt64 x)
    have ha := fun base => at_fun h.at' base hp (x / 64)
    have hP := put_P h.toTB base hp hi hj (key_ok ⟨h0, hx⟩) (andNot_lt _ (2 ^ (x % 64).toNat) (hp.wd.lt (x / 64))) hl
    simp only [s_bits_Set_Drop, a_bits_Set_Drop, am0,am1,am2,am3,am4,am5,am6,am7,bl,i64,reduceIte,reduceCtorEq,Nat.reduceEqDiff,Nat.reduceLT,Nat.reduceLeDiff,Nat.reduceBEq,Nat.reduceAdd,fillA,splice,Nat.reduceMul,al0,al1,al2,al3,al4,al5,al6,al7,al8,al9,al10,al11,al12,al13,al14,al15,al16,al17,al18,al19,al20,al21,al22,al23,al24,al25,al26,al27,al28,al29,al30,al31,al32,al33,al34,amY,op_eqP, hh, hq, s6, ↓s6, a6, ↓a6, hs, ↓hs, ho, ↓ho, ha, hP, he]
    done
theorem copy_P (h : TC CT) (base : Nat) {H : Heap} {i j : Nat} {p : WS} (hp : SetP H i j p) :
    callW CT (.fn k_bits_Set_Copy [] []) [.ref i 0 0] base H = some (.ref (H.length + 1) 0 0, H ++ [.map (esF p.1 p.2)] ++ [.cells 0 [.mp H.length, iV (cnt p)]]) := by
  have hb := hp.box
  simp only [iV] at hb
  have hc : ∀ b, callW CT (.fn k_maps_Clone [] []) [.mp j] b H = some (.mp H.length, H ++ [.map (esF p.1 p.2)]) := fun b => callW_eq (by
    simp only [evCall, h.clone, List.nil_append, List.append_nil, cloneG, hp.map])
  have hif : (i = H.length) = False := by have := SetW.lt hp; simp; omega
  refine callW_fn (c := s_bits_Set_Copy) h.copy (by simp [s_bits_Set_Copy]) ?_
  simp only [s_bits_Set_Copy, a_bits_Set_Copy, am0,am1,am2,am3,am4,am5,am6,am7,bl,i64,reduceIte,reduceCtorEq,Nat.reduceEqDiff,Nat.reduceLT,Nat.reduceLeDiff,Nat.reduceBEq,Nat.reduceAdd,fillA,splice,Nat.reduceMul,al0,al1,al2,al3,al4,al5,al6,al7,al8,al9,al10,al11,al12,al13,al14,al15,al16,al17,al18,al19,al20,al21,al22,al23,al24,al25,al26,al27,al28,al29,al30,al31,al32,al33,al34,amY,op_eqP, hb, hc, hif]
  rfl
theorem copy_set {H : Heap} {p : WS} (hp : WdP p) : SetP (H ++ [.map (esF p.1 p.2)] ++ [.cells 0 [.mp H.length, iV (cnt p)]]) (H.length + 1) H.length p := by
  refine ⟨?_, ?_, hp⟩
  · have := getC_new (H ++ [.map (esF p.1 p.2)]) 0 [.mp H.length, iV (cnt p)]
    simpa using this
  · simp
theorem copy_ex (h : TC CT) (base : Nat) {H : Heap} {i j : Nat} {p : WS} (hp : SetP H i j p) :
    ∃ H', callW CT (.fn k_bits_Set_Copy [] []) [.ref i 0 0] base H = some (.ref (H.length + 1) 0 0, H') ∧ SetP H' (H.length + 1) H.length p ∧ KeepD H.length [] H H' ∧ H'.length = H.length + 2 :=
  ⟨_, copy_P h base hp, copy_set hp.wd, ⟨by simp, fun id h1 _ => by rw [List.append_assoc, List.getElem?_append_left h1]⟩, by simp⟩
end
end Go.Proofs.YtccallbknpbggaaDoor
set_option maxRecDepth 100000
namespace Go.Proofs.YtccallbknpbggaaDoor
open Go.AM
section
variable {CT : Nat → Option CFun}
theorem in_body (h : TB CT) {base t3 t4 : Nat} {H : Heap} {ov : V} (hb : base ≤ t4) (h3 : getC H t3 0 = some [ov]) (h4 : getC H t4 0 = some [.s (.bool false)])
    {k : Int} {w u : Nat} (hw : w < 2 ^ 64) (hu : u < 2 ^ 64) (hat : ∀ base, callW CT (.fn k_bits_Set_at [] []) [ov, .s (.int .i64 k)] base H = some (.s (.int .u64 u), H)) :
    evC (callW CT) itW base s_bits_Set_In_b0 (frOf 17 [(3, .ref t3 0 0), (4, .ref t4 0 0), (5, .s (.int .i64 k)), (6, .s (.int .u64 w))]) H = bif decide (andNot w u = 0) then some (.nrm, frOf 17 [(4, .ref t4 0 0), (16, .s (.bool false))], H) else some (.ret, frOf 17 [], H) := by
  have ha := w64_andNot w u hw hu
  have hst : storeV H base 1 (.s (.bool false)) (.ref t4 0 0) = some H := by
    rw [storeV_at h4 hb rfl (by decide)]
    exact congrArg some (getC_same h4)
  by_cases h0 : andNot w u = 0
  · have hz : (((andNot w u : Nat) : Int) != 0) = false := by rw [h0]; rfl
    simp only [s_bits_Set_In_b0, a_bits_Set_In, am0,am1,am2,am3,am4,am5,am6,am7,bl,i64,reduceIte,reduceCtorEq,Nat.reduceEqDiff,Nat.reduceLT,Nat.reduceLeDiff,Nat.reduceBEq,Nat.reduceAdd,fillA,splice,Nat.reduceMul,al0,al1,al2,al3,al4,al5,al6,al7,al8,al9,al10,al11,al12,al13,al14,al15,al16,al17,al18,al19,al20,al21,al22,al23,al24,al25,al26,al27,al28,al29,al30,al31,al32,al33,al34,amY,op_eqP, h3, hat, ↓ha, ha, hz, h0]
    done
  · have hz : (((andNot w u : Nat) : Int) != 0) = true := by simpa using h0
    simp only [s_bits_Set_In_b0, a_bits_Set_In, hst, ↓hst, am0,am1,am2,am3,am4,am5,am6,am7,bl,i64,reduceIte,reduceCtorEq,Nat.reduceEqDiff,Nat.reduceLT,Nat.reduceLeDiff,Nat.reduceBEq,Nat.reduceAdd,fillA,splice,Nat.reduceMul,al0,al1,al2,al3,al4,al5,al6,al7,al8,al9,al10,al11,al12,al13,al14,al15,al16,al17,al18,al19,al20,al21,al22,al23,al24,al25,al26,al27,al28,al29,al30,al31,al32,al33,al34,amY,op_eqP, h3, hat, ↓ha, ha, hz, h0]
    done
theorem in_P (h : TC CT) (base : Nat) {H : Heap} {i j : Nat} {p : WS} (hp : SetP H i j p) (hl : cnt p ≤ 2 ^ 43) {ov : V} {g : Int → Nat} (ho : AtV CT H ov g) (hb : base ≤ H.length) :
    ∃ r H', callW CT (.fn k_bits_Set_In [] []) [.ref i 0 0, ov] base H = some (.s (.bool r), H') ∧ (r = true ↔ ∀ k ∈ p.1, andNot (p.2 k) (g k) = 0) ∧ KeepD H.length [] H H' := by
  have c1 := cells_of_one ho.one
  have a1 : [ov].all V.one = true := by simp [ho.one]
  have hov := ho.one
  have hal := fun b H => all_fun h.toTB b H (v := .ref i 0 0) rfl
  have hil := SetW.lt hp
  obtain ⟨Hr, hHr⟩ : ∃ Hr, H ++ [Ob.cells 0 [ov]] ++ [Ob.cells 0 [V.s (.bool false)]] ++ [Ob.cells 0 [V.ref i 0 0]] = Hr := ⟨_, rfl⟩
  have hrl : Hr.length = H.length + 3 := by rw [← hHr]; simp
  have hEr : KeepD H.length [] H Hr := ⟨by omega, fun id hid _ => by rw [← hHr, List.append_assoc, List.append_assoc, List.getElem?_append_left hid]⟩
  have r3 : getC Hr H.length 0 = some [ov] := by rw [← hHr]; exact getC_app (getC_app (getC_new H 0 _))
  have r4 : getC Hr (H.length + 1) 0 = some [.s (.bool false)] := by
    rw [← hHr]
    refine getC_app ?_
    have := getC_new (H ++ [Ob.cells 0 [ov]]) 0 [V.s (.bool false)]
    simpa using this
  have rbx : getC Hr (H.length + 2) 0 = some [.ref i 0 0] := by
    rw [← hHr]
    have := getC_new (H ++ [Ob.cells 0 [ov]] ++ [Ob.cells 0 [V.s (.bool false)]]) 0 [V.ref i 0 0]
    simpa using this
  have rp : SetP Hr i j p := hEr.setP hp hil ⟨by simp, by simp⟩
  obtain ⟨e, H2, hr1, hr2, hr3⟩ := rng_all (CT := CT) h.toTB (base := base) (H := Hr) (bx := H.length + 2) (fr := frOf 17 [(3, .ref H.length 0 0), (4, .ref (H.length + 1) 0 0), (8, .fn k_bits_Set_all_1 [] [.ref (H.length + 2) 0 0])]) (ps := [9, 10]) (a := s_bits_Set_In_a0) (b := s_bits_Set_In_b0) (D := [])
    (Inv := fun pre H' => ∀ k ∈ pre, andNot (p.2 k) (g k) = 0) (Q := fun _ => ∃ k ∈ p.1, andNot (p.2 k) (g k) ≠ 0) (ex := .ret)
    (frA := fun k w => frOf 17 [(3, .ref H.length 0 0), (4, .ref (H.length + 1) 0 0), (8, .fn k_bits_Set_all_1 [] [.ref (H.length + 2) 0 0]), (9, .s (.int .i64 k)), (10, .s (.int .u64 w))])
    (frB := fun k w => frOf 17 [(3, .ref H.length 0 0), (4, .ref (H.length + 1) 0 0), (5, .s (.int .i64 k)), (6, .s (.int .u64 w))])
    rp rbx (by simp) (by omega) hl (by simp) (fun k w => by simp only [am0,am1,am2,am3,am4,am5,am6,am7,bl,i64,reduceIte,reduceCtorEq,Nat.reduceEqDiff,Nat.reduceLT,Nat.reduceLeDiff,Nat.reduceBEq,Nat.reduceAdd,fillA,splice,Nat.reduceMul,al0,al1,al2,al3,al4,al5,al6,al7,al8,al9,al10,al11,al12,al13,al14,al15,al16,al17,al18,al19,al20,al21,al22,al23,al24,al25,al26,al27,al28,al29,al30,al31,al32,al33,al34,amY,op_eqP]) (fun k w H => by simp only [s_bits_Set_In_a0, a_bits_Set_In, am0,am1,am2,am3,am4,am5,am6,am7,bl,i64,reduceIte,reduceCtorEq,Nat.reduceEqDiff,Nat.reduceLT,Nat.reduceLeDiff,Nat.reduceBEq,Nat.reduceAdd,fillA,splice,Nat.reduceMul,al0,al1,al2,al3,al4,al5,al6,al7,al8,al9,al10,al11,al12,al13,al14,al15,al16,al17,al18,al19,al20,al21,al22,al23,al24,al25,al26,al27,al28,al29,al30,al31,al32,al33,al34,amY,op_eqP])
    (fun G k hk => by cases hk) (fun pre H' m fr hI hm => hI) (fun pre H' ob hI => hI)
    (fun _ _ _ hQ _ => hQ) (fun _ _ hQ => hQ) (fun pre k post H' hs hI hK => ⟨j, p, hK.setP rp ⟨by omega, by omega⟩ ⟨by simp, by simp⟩, rfl⟩)
    (fun pre k post H' hs hI hK hlt => by
      have hkr : k ∈ p.1 := mem_sortI.1 (by rw [hs]; simp)
      have hb2 := in_body h.toTB (base := base) (t3 := H.length) (t4 := H.length + 1) (by omega) (hK.getC r3 (by omega) (by simp)) (hK.getC r4 (by omega) (by simp)) (hp.wd.lt k) (ho.lt k) (k := k) (fun base => ho.at' H' (hEr.trans hK (by omega)) base k)
      by_cases h0 : andNot (p.2 k) (g k) = 0
      · rw [decide_eq_true h0, cond_true] at hb2
        refine ⟨_, _, _, hb2, ⟨hlt, fun _ _ _ => rfl⟩, .inl ⟨rfl, fun x hx => ?_⟩⟩
        rcases List.mem_append.1 hx with hx | hx
        · exact hI x hx
        · simp at hx; subst hx; exact h0
      · rw [decide_eq_false h0, cond_false] at hb2
        exact ⟨_, _, _, hb2, ⟨hlt, fun _ _ _ => rfl⟩, .inr ⟨rfl, by simp, k, hkr, h0⟩⟩)
  have k4 : getC H2 (H.length + 1) 0 = some [.s (.bool false)] := hr2.getC r4 (by omega) (by simp)
  have hfin : KeepD H.length [] H H2 := hEr.trans hr2 (by omega)
  rcases hr3 with ⟨rfl, hI⟩ | ⟨rfl, _, k, hk, hne⟩
  · have hst : storeV H2 base 1 (.s (.bool true)) (.ref (H.length + 1) 0 0) = some (H2.set (H.length + 1) (.cells 0 [.s (.bool true)])) := by
      rw [storeV_at k4 (by omega) rfl (by decide)]; rfl
    have g4 : getC (H2.set (H.length + 1) (.cells 0 [.s (.bool true)])) (H.length + 1) 0 = some [.s (.bool true)] := getC_set k4 0
    refine ⟨true, H2.set (H.length + 1) (.cells 0 [.s (.bool true)]), ?_, ⟨fun _ k hk => hI k (mem_sortI.2 hk), fun _ => rfl⟩, ⟨by rw [List.length_set]; exact hfin.1, fun id h1 h2 => by rw [List.getElem?_set_ne (by omega)]; exact hfin.2 id h1 h2⟩⟩
    refine callW_fnA (c := s_bits_Set_In) (k := 2) h.in' rfl (by decide) s_bits_Set_In_first ?_
    simp only [s_bits_Set_In, a_bits_Set_In, hst, ↓hst, am0,am1,am2,am3,am4,am5,am6,am7,bl,i64,reduceIte,reduceCtorEq,Nat.reduceEqDiff,Nat.reduceLT,Nat.reduceLeDiff,Nat.reduceBEq,Nat.reduceAdd,fillA,splice,Nat.reduceMul,al0,al1,al2,al3,al4,al5,al6,al7,al8,al9,al10,al11,al12,al13,al14,al15,al16,al17,al18,al19,al20,al21,al22,al23,al24,al25,al26,al27,al28,al29,al30,al31,al32,al33,al34,amY,op_eqP, c1, a1, hov, hal, hHr, hr1, load1 g4]
    done
  · refine ⟨false, H2, ?_, ⟨(fun e => by cases e), fun hI => absurd (hI k hk) hne⟩, hfin⟩
    refine callW_fnA (c := s_bits_Set_In) (k := 2) h.in' rfl (by decide) s_bits_Set_In_first ?_
    simp only [s_bits_Set_In, a_bits_Set_In, am0,am1,am2,am3,am4,am5,am6,am7,bl,i64,reduceIte,reduceCtorEq,Nat.reduceEqDiff,Nat.reduceLT,Nat.reduceLeDiff,Nat.reduceBEq,Nat.reduceAdd,fillA,splice,Nat.reduceMul,al0,al1,al2,al3,al4,al5,al6,al7,al8,al9,al10,al11,al12,al13,al14,al15,al16,al17,al18,al19,al20,al21,al22,al23,al24,al25,al26,al27,al28,al29,al30,al31,al32,al33,al34,amY,op_eqP, c1, a1, hov, hal, hHr, hr1, load1 k4]
    done
end
end Go.Proofs.YtccallbknpbggaaDoor
set_option maxRecDepth 100000
namespace Go.Proofs.YtccallbknpbggaaDoor
open Go.AM
section
variable {CT : Nat → Option CFun}
def LenV (CT : Nat → Option CFun) (H : Heap) (v : V) (n : Nat) : Prop := ∀ H', KeepD H.length [] H H' → ∀ base, callW CT (.fn k_bits_Set_Len [] []) [v] base H' = some (.s (.int .i64 n), H')
theorem LenV.set (h : TB CT) {H : Heap} {i j : Nat} {p : WS} (hp : SetP H i j p) : LenV CT H (.ref i 0 0) (cnt p) := fun H' hk base => len_fun h.len base (hk.setP hp (SetW.lt hp) ⟨by simp, by simp⟩)
theorem LenV.nil (h : TB CT) (H : Heap) : LenV CT H (.s (.pointer none)) 0 := fun H' _ base => len_nil h.len base H'
theorem same_P (h : TC CT) (base : Nat) {H : Heap} {i j : Nat} {p : WS} (hp : SetP H i j p) (hl : cnt p ≤ 2 ^ 43) {ov : V} {g : Int → Nat} {n : Nat} (ho : AtV CT H ov g) (hn : LenV CT H ov n) (hb : base ≤ H.length) :
    ∃ r H', callW CT (.fn k_bits_Set_Same [] []) [.ref i 0 0, ov] base H = some (.s (.bool r), H') ∧ (r = true ↔ cnt p = n ∧ ∀ k ∈ p.1, andNot (p.2 k) (g k) = 0) ∧ KeepD H.length [] H H' := by
  have h1 := fun base => len_fun h.len base hp
  have h2 := hn H (KeepD.refl _ _)
  by_cases he : cnt p = n
  · obtain ⟨r, H', hi1, hi2, hi3⟩ := in_P h base hp hl ho hb
    refine ⟨r, H', ?_, ⟨fun e => ⟨he, hi2.1 e⟩, fun e => hi2.2 e.2⟩, hi3⟩
    have heq : ((cnt p : Int) == (n : Int)) = true := by rw [he]; simp
    refine callW_fn (c := s_bits_Set_Same) h.same (by simp [s_bits_Set_Same]) ?_
    simp only [s_bits_Set_Same, a_bits_Set_Same, am0,am1,am2,am3,am4,am5,am6,am7,bl,i64,reduceIte,reduceCtorEq,Nat.reduceEqDiff,Nat.reduceLT,Nat.reduceLeDiff,Nat.reduceBEq,Nat.reduceAdd,fillA,splice,Nat.reduceMul,al0,al1,al2,al3,al4,al5,al6,al7,al8,al9,al10,al11,al12,al13,al14,al15,al16,al17,al18,al19,al20,al21,al22,al23,al24,al25,al26,al27,al28,al29,al30,al31,al32,al33,al34,amY,op_eqP, h1, h2, heq, hi1]
    done
  · refine ⟨false, H, ?_, ⟨(fun e => by cases e), fun e => absurd e.1 he⟩, KeepD.refl _ _⟩
    have heq : ((cnt p : Int) == (n : Int)) = false := by
      have : ¬ (cnt p : Int) = n := by omega
      simpa using this
    refine callW_fn (c := s_bits_Set_Same) h.same (by simp [s_bits_Set_Same]) ?_
    simp only [s_bits_Set_Same, a_bits_Set_Same, am0,am1,am2,am3,am4,am5,am6,am7,bl,i64,reduceIte,reduceCtorEq,Nat.reduceEqDiff,Nat.reduceLT,Nat.reduceLeDiff,Nat.reduceBEq,Nat.reduceAdd,fillA,splice,Nat.reduceMul,al0,al1,al2,al3,al4,al5,al6,al7,al8,al9,al10,al11,al12,al13,al14,al15,al16,al17,al18,al19,al20,al21,al22,al23,al24,al25,al26,al27,al28,al29,al30,al31,al32,al33,al34,amY,op_eqP, h1, h2, heq]
    done
end
end Go.Proofs.YtccallbknpbggaaDoor
set_option maxRecDepth 100000
namespace Go.Proofs.YtccallbknpbggaaDoor
open Go.AM
structure TD (CT : Nat → Option CFun) : Prop extends TC CT where
  tz : CT k_math_bits_TrailingZeros64 = some (.prim tzG)
  list : CT k_bits_Set_List = some (.code s_bits_Set_List)
  least : CT k_bits_Set_Least = some (.code s_bits_Set_Least)
section
variable {CT : Nat → Option CFun}
theorem tz_fun (h : TD CT) (base : Nat) (H : Heap) (w : Nat) (hw : w < 2 ^ 64) : callW CT (.fn k_math_bits_TrailingZeros64 [] []) [.s (.int .u64 w)] base H = some (.s (.int .i64 (Lib.ctz 64 w : Nat)), H) := by
  refine callW_eq ?_
  have h1 : (0 : Int) ≤ w ∧ (w : Int) < 18446744073709551616 := by omega
  simp only [evCall, h.tz, List.nil_append, List.append_nil, tzG, h1, and_self, if_true, Int.toNat_natCast]
theorem list_loop (h : TD CT) {base t3 m M : Nat} (hb : base ≤ t3) (h3m : t3 < m) (hmM : m ≤ M) {k : Int} (hk : 0 ≤ k ∧ k < 2 ^ 57) :
    ∀ (n w : Nat) (H : Heap) (v : V) (out : List Int), w < 2 ^ 64 → (wbits k w).length = n → getC H t3 0 = some [v] → OwnN m H v (out.map iV) → M ≤ H.length → out.length + n ≤ 2 ^ 43 →
    ∃ fr H2 v2, itW (evC (callW CT) itW base s_bits_Set_List_l0) [] M (frOf 25 [(3, .ref t3 0 0), (4, .s (.int .i64 k)), (5, .s (.int .u64 w))]) H = some (.ext 2, fr, H2) ∧ getC H2 t3 0 = some [v2] ∧ OwnN m H2 v2 ((out ++ wbits k w).map iV) ∧ KeepD m [t3] H H2 ∧ M ≤ H2.length := by
  intro n
  induction n with
  | zero =>
    intro w H v out hw hn h3 hv hM hs
    have h0 : w = 0 := Decidable.byContradiction fun hne => by rw [wbits_cons k hne hw] at hn; simp at hn
    subst h0
    rw [itW_step]
    have hz : ((((0 : Nat) : Nat) : Int) != 0) = false := rfl
    simp only [a_bits_Set_List,s_bits_Set_List_l0_b, am0,am1,am2,am3,am4,am5,am6,am7,bl,i64,reduceIte,reduceCtorEq,Nat.reduceEqDiff,Nat.reduceLT,Nat.reduceLeDiff,Nat.reduceBEq,Nat.reduceAdd,fillA,splice,Nat.reduceMul,al0,al1,al2,al3,al4,al5,al6,al7,al8,al9,al10,al11,al12,al13,al14,al15,al16,al17,al18,al19,al20,al21,al22,al23,al24,al25,al26,al27,al28,al29,al30,al31,al32,al33,al34,amY,op_eqP, hz]
    refine ⟨_, _, v, rfl, trim_get h3 (by omega), ?_, KeepD.trim (H0 := H) ⟨by omega, fun _ _ _ => rfl⟩ hmM _, trim_le hM⟩
    rw [wbits_zero, List.append_nil]
    exact hv.trim h3 (by omega) (by simp) _
  | succ n ih =>
    intro w H v out hw hn h3 hv hM hs
    have h0 : w ≠ 0 := by rintro rfl; rw [wbits_zero] at hn; simp at hn
    obtain ⟨hc, _⟩ := low_spec h0 hw
    have hcons := wbits_cons k h0 hw
    have hn' : (wbits k (w &&& (w - 1))).length = n := by rw [hcons] at hn; simpa using hn
    have hw' : w &&& (w - 1) < 2 ^ 64 := Nat.lt_of_le_of_lt Nat.and_le_left hw
    have hz : ((w : Int) != 0) = true := by simpa using h0
    have htz := fun H => tz_fun h H.length H w hw
    have s6 := fun j => i64_shl6 k j hk
    have ho := i64_or k (Lib.ctz 64 w) hk hc
    obtain ⟨v', H', ha, hv', hlen', hkeep'⟩ := hv.append (base := base) (bytes := 8) (x := iV (k * 64 + (Lib.ctz 64 w : Nat))) (by omega) rfl (by omega) (by rw [List.length_map]; omega)
    have h3' : getC H' t3 0 = some [v] := getC_keep h3 (hkeep' t3 h3m)
    have hst : storeV H' base 1 v' (.ref t3 0 0) = some (H'.set t3 (.cells 0 [v'])) := by rw [storeV_at h3' hb hv'.one (by simp)]; rfl
    have hs1 := w64_sub1 w h0 hw
    have hs2 := w64_and w (w - 1) hw (by omega)
    simp only [iV] at ha
    have h32 : getC (H'.set t3 (.cells 0 [v'])) t3 0 = some [v'] := getC_set h3' 0
    have hv2 : OwnN m (H'.set t3 (.cells 0 [v'])) v' ((out ++ [k * 64 + (Lib.ctz 64 w : Nat)]).map iV) := by
      rw [List.map_append]
      exact hv'.set h3m _
    have hk2 : KeepD m [t3] H (H'.set t3 (.cells 0 [v'])) := ⟨by rw [List.length_set]; omega, fun id h1 h2 => by
      rw [List.getElem?_set_ne (by simp at h2; omega)]; exact hkeep' id h1⟩
    let fr1 := frOf 25 [(3, V.ref t3 0 0), (4, V.s (.int .i64 k)), (5, V.s (.int .u64 ((w &&& (w - 1) : Nat) : Int)))]
    obtain ⟨fr, H2, v2, hr, g3, g4, g5, g6⟩ := ih (w &&& (w - 1)) (trim M fr1 (H'.set t3 (.cells 0 [v']))) v' (out ++ [k * 64 + (Lib.ctz 64 w : Nat)]) hw' hn' (trim_get h32 (by omega)) (hv2.trim h32 (by omega) (by simp) _) (trim_le (by rw [List.length_set]; omega)) (by simp; omega)
    refine ⟨fr, H2, v2, ?_, g3, by rw [hcons]; simpa using g4, (hk2.trim hmM fr1).trans g5 (Nat.le_refl _), g6⟩
    rw [itW_step]
    simp only [a_bits_Set_List,s_bits_Set_List_l0_b, hst, ↓hst, am0,am1,am2,am3,am4,am5,am6,am7,bl,i64,reduceIte,reduceCtorEq,Nat.reduceEqDiff,Nat.reduceLT,Nat.reduceLeDiff,Nat.reduceBEq,Nat.reduceAdd,fillA,splice,Nat.reduceMul,al0,al1,al2,al3,al4,al5,al6,al7,al8,al9,al10,al11,al12,al13,al14,al15,al16,al17,al18,al19,al20,al21,al22,al23,al24,al25,al26,al27,al28,al29,al30,al31,al32,al33,al34,amY,op_eqP, hz, h3, htz, s6, ↓s6, ho, ↓ho, ha, hs1, ↓hs1, hs2, ↓hs2]
    exact hr
end
end Go.Proofs.YtccallbknpbggaaDoor
set_option maxRecDepth 100000
namespace Go.Proofs.YtccallbknpbggaaDoor
open Go.AM
section
variable {CT : Nat → Option CFun}
theorem list_P (h : TD CT) (base : Nat) {H : Heap} {i j : Nat} {p : WS} (hp : SetP H i j p) (hl : cnt p ≤ 2 ^ 43) (hb : base ≤ H.length) :
    ∃ v H', callW CT (.fn k_bits_Set_List [] []) [.ref i 0 0] base H = some (v, H') ∧ OwnN H.length H' v ((el p).map iV) ∧ KeepD H.length [] H H' := by
  have hal := fun b H => all_fun h.toTB b H (v := .ref i 0 0) rfl
  have hil := SetW.lt hp
  obtain ⟨Hr, hHr⟩ : ∃ Hr, H ++ [Ob.cells 0 [nilS]] ++ [Ob.cells 0 [V.ref i 0 0]] = Hr := ⟨_, rfl⟩
  have hrl : Hr.length = H.length + 2 := by rw [← hHr]; simp
  have hEr : KeepD H.length [] H Hr := ⟨by omega, fun id hid _ => by rw [← hHr, List.append_assoc, List.getElem?_append_left hid]⟩
  have r3 : getC Hr H.length 0 = some [nilS] := by rw [← hHr]; exact getC_app (getC_new H 0 _)
  have rbx : getC Hr (H.length + 1) 0 = some [.ref i 0 0] := by
    rw [← hHr]
    have := getC_new (H ++ [Ob.cells 0 [nilS]]) 0 [V.ref i 0 0]
    simpa using this
  have rp : SetP Hr i j p := hEr.setP hp hil ⟨by simp, by simp⟩
  have hdist : i ∉ [H.length] ∧ j ∉ [H.length] := by simp; omega
  have hlenel : ∀ pre post, sortI p.1 = pre ++ post → (pre.flatMap fun k => wbits k (p.2 k)).length + (post.flatMap fun k => wbits k (p.2 k)).length = cnt p := fun pre post e => by
    rw [← el_len, el_flat, e, List.flatMap_append, List.length_append]
  obtain ⟨e, H2, hr1, hr2, hr3⟩ := rng_all (CT := CT) h.toTB (base := base) (H := Hr) (bx := H.length + 1) (fr := frOf 25 [(3, .ref H.length 0 0), (7, .fn k_bits_Set_all_1 [] [.ref (H.length + 1) 0 0])]) (ps := [8, 9]) (a := s_bits_Set_List_a1) (b := s_bits_Set_List_b1) (D := [H.length])
    (Inv := fun pre H' => ∃ v, getC H' H.length 0 = some [v] ∧ OwnN (Hr.length + 3) H' v ((pre.flatMap fun k => wbits k (p.2 k)).map iV)) (Q := fun _ => False) (ex := .nrm)
    (frA := fun k w => frOf 25 [(3, .ref H.length 0 0), (7, .fn k_bits_Set_all_1 [] [.ref (H.length + 1) 0 0]), (8, .s (.int .i64 k)), (9, .s (.int .u64 w))])
    (frB := fun k w => frOf 25 [(3, .ref H.length 0 0), (4, .s (.int .i64 k)), (5, .s (.int .u64 w))])
    rp rbx (by simp) (by omega) hl (by simp; omega) (fun k w => by simp only [am0,am1,am2,am3,am4,am5,am6,am7,bl,i64,reduceIte,reduceCtorEq,Nat.reduceEqDiff,Nat.reduceLT,Nat.reduceLeDiff,Nat.reduceBEq,Nat.reduceAdd,fillA,splice,Nat.reduceMul,al0,al1,al2,al3,al4,al5,al6,al7,al8,al9,al10,al11,al12,al13,al14,al15,al16,al17,al18,al19,al20,al21,al22,al23,al24,al25,al26,al27,al28,al29,al30,al31,al32,al33,al34,amY,op_eqP]) (fun k w H => by simp only [s_bits_Set_List_a1, a_bits_Set_List,s_bits_Set_List_l0_b, am0,am1,am2,am3,am4,am5,am6,am7,bl,i64,reduceIte,reduceCtorEq,Nat.reduceEqDiff,Nat.reduceLT,Nat.reduceLeDiff,Nat.reduceBEq,Nat.reduceAdd,fillA,splice,Nat.reduceMul,al0,al1,al2,al3,al4,al5,al6,al7,al8,al9,al10,al11,al12,al13,al14,al15,al16,al17,al18,al19,al20,al21,al22,al23,al24,al25,al26,al27,al28,al29,al30,al31,al32,al33,al34,amY,op_eqP])
    (fun G => ⟨nilS, getC_app r3, .inl ⟨rfl, .inl rfl⟩⟩) (fun pre H' m fr ⟨v, hI1, hI2⟩ hm => ⟨v, trim_get hI1 (by omega), hI2.trim hI1 (by omega) (by simp) fr⟩)
    (fun pre H' ob ⟨v, hI1, hI2⟩ => ⟨v, by rw [getC_other (by omega)]; exact hI1, hI2.set (by omega) ob⟩)
    (fun _ _ _ hQ _ => hQ) (fun _ _ hQ => hQ) (fun pre k post H' hs hI hK => ⟨j, p, hK.setP rp ⟨by omega, by omega⟩ hdist, rfl⟩)
    (fun pre k post H' hs hI hK hlt => by
      obtain ⟨v, hI1, hI2⟩ := hI
      have hkr : k ∈ p.1 := mem_sortI.1 (by rw [hs]; simp)
      have hlens := hlenel pre (k :: post) hs
      rw [List.flatMap_cons, List.length_append] at hlens
      obtain ⟨fr, H3, v2, hq1, hq2, hq3, hq4, hq5⟩ := list_loop h (base := base) (t3 := H.length) (m := Hr.length + 3) (M := H'.length) (by omega) (by omega) (by omega) (hp.wd.nn k hkr) _ (p.2 k) H' v _ (hp.wd.lt k) rfl hI1 hI2 (Nat.le_refl _) (by omega)
      refine ⟨.nrm, fr, H3, ?_, hq4, .inl ⟨rfl, v2, hq2, by rw [List.flatMap_append]; simpa using hq3⟩⟩
      simp only [s_bits_Set_List_b1, a_bits_Set_List,s_bits_Set_List_l0_b, am0,am1,am2,am3,am4,am5,am6,am7,bl,i64,reduceIte,reduceCtorEq,Nat.reduceEqDiff,Nat.reduceLT,Nat.reduceLeDiff,Nat.reduceBEq,Nat.reduceAdd,fillA,splice,Nat.reduceMul,al0,al1,al2,al3,al4,al5,al6,al7,al8,al9,al10,al11,al12,al13,al14,al15,al16,al17,al18,al19,al20,al21,al22,al23,al24,al25,al26,al27,al28,al29,al30,al31,al32,al33,al34,amY,op_eqP, hq1]
      done)
  have hr4 : e = .nrm ∧ ∃ v, getC H2 H.length 0 = some [v] ∧ OwnN (Hr.length + 3) H2 v ((el p).map iV) := by
    rcases hr3 with ⟨a, b⟩ | ⟨_, _, c⟩
    · exact ⟨a, b⟩
    · exact c.elim
  obtain ⟨rfl, v, hv1, hv2⟩ := hr4
  have hfin : KeepD H.length [] H H2 := ⟨by have := hr2.1; omega, fun id h1 _ => by rw [hr2.2 id (by omega) (by simp; omega), hEr.2 id h1 (by simp)]⟩
  refine ⟨v, H2, ?_, hv2.mono (by omega), hfin⟩
  have hnil : nilS = V.s (.slice none 0 0) := rfl
  rw [hnil] at hHr
  refine callW_fn (c := s_bits_Set_List) h.list (by simp [s_bits_Set_List]) ?_
  simp only [s_bits_Set_List, a_bits_Set_List,s_bits_Set_List_l0_b, am0,am1,am2,am3,am4,am5,am6,am7,bl,i64,reduceIte,reduceCtorEq,Nat.reduceEqDiff,Nat.reduceLT,Nat.reduceLeDiff,Nat.reduceBEq,Nat.reduceAdd,fillA,splice,Nat.reduceMul,al0,al1,al2,al3,al4,al5,al6,al7,al8,al9,al10,al11,al12,al13,al14,al15,al16,al17,al18,al19,al20,al21,al22,al23,al24,al25,al26,al27,al28,al29,al30,al31,al32,al33,al34,amY,op_eqP, hal, hHr, hr1, hv1]
  done
end
end Go.Proofs.YtccallbknpbggaaDoor
set_option maxRecDepth 100000
namespace Go.Proofs.YtccallbknpbggaaDoor
open Go.AM
def leastV : List Int → V
  | [] => .tup [.s (.int .i64 0), .s (.bool false)]
  | x :: _ => .tup [.s (.int .i64 x), .s (.bool true)]
section
variable {CT : Nat → Option CFun}
theorem least_body (h : TD CT) {base t2 t3 : Nat} {H : Heap} (hb2 : base ≤ t2) (hb3 : base ≤ t3) (hne : t2 ≠ t3) {a b : V} (h2 : getC H t2 0 = some [a]) (h3 : getC H t3 0 = some [b])
    {k : Int} (hk : 0 ≤ k ∧ k < 2 ^ 57) {w : Nat} (hw : w < 2 ^ 64) (h0 : w ≠ 0) :
    evC (callW CT) itW base s_bits_Set_Least_b0 (frOf 15 [(2, .ref t2 0 0), (3, .ref t3 0 0), (4, .s (.int .i64 k)), (5, .s (.int .u64 w))]) H = some (.ret, frOf 15 [], (H.set t2 (.cells 0 [.s (.int .i64 (k * 64 + (Lib.ctz 64 w : Nat)))])).set t3 (.cells 0 [.s (.bool true)])) := by
  obtain ⟨hc, _⟩ := low_spec h0 hw
  have htz := fun base => tz_fun h base H w hw
  have s6 := fun j => i64_shl6 k j hk
  have ho := i64_or k (Lib.ctz 64 w) hk hc
  have e2 : storeV H base 1 (.s (.int .i64 (k * 64 + (Lib.ctz 64 w : Nat)))) (.ref t2 0 0) = some (H.set t2 (.cells 0 [.s (.int .i64 (k * 64 + (Lib.ctz 64 w : Nat)))])) := by rw [storeV_at h2 hb2 rfl (by simp)]; rfl
  have h3' : getC (H.set t2 (.cells 0 [.s (.int .i64 (k * 64 + (Lib.ctz 64 w : Nat)))])) t3 0 = some [b] := by rw [getC_other (Ne.symm hne)]; exact h3
  have e3 : storeV (H.set t2 (.cells 0 [.s (.int .i64 (k * 64 + (Lib.ctz 64 w : Nat)))])) base 1 (.s (.bool true)) (.ref t3 0 0) = some ((H.set t2 (.cells 0 [.s (.int .i64 (k * 64 + (Lib.ctz 64 w : Nat)))])).set t3 (.cells 0 [.s (.bool true)])) := by rw [storeV_at h3' hb3 rfl (by simp)]; rfl
  simp only [s_bits_Set_Least_b0, a_bits_Set_Least, e2, ↓e2, e3, ↓e3, am0,am1,am2,am3,am4,am5,am6,am7,bl,i64,reduceIte,reduceCtorEq,Nat.reduceEqDiff,Nat.reduceLT,Nat.reduceLeDiff,Nat.reduceBEq,Nat.reduceAdd,fillA,splice,Nat.reduceMul,al0,al1,al2,al3,al4,al5,al6,al7,al8,al9,al10,al11,al12,al13,al14,al15,al16,al17,al18,al19,al20,al21,al22,al23,al24,al25,al26,al27,al28,al29,al30,al31,al32,al33,al34,amY,op_eqP, htz, s6, ↓s6, ho, ↓ho]
  done
theorem least_P (h : TD CT) (base : Nat) {H : Heap} {i j : Nat} {p : WS} (hp : SetP H i j p) (hl : cnt p ≤ 2 ^ 43) (hb : base ≤ H.length) :
    ∃ H', callW CT (.fn k_bits_Set_Least [] []) [.ref i 0 0] base H = some (leastV (el p), H') ∧ KeepD H.length [] H H' := by
  have hal := fun b H => all_fun h.toTB b H (v := .ref i 0 0) rfl
  have hil := SetW.lt hp
  obtain ⟨Hr, hHr⟩ : ∃ Hr, H ++ [Ob.cells 0 [V.s (.int .i64 0)]] ++ [Ob.cells 0 [V.s (.bool false)]] ++ [Ob.cells 0 [V.ref i 0 0]] = Hr := ⟨_, rfl⟩
  have hrl : Hr.length = H.length + 3 := by rw [← hHr]; simp
  have hEr : KeepD H.length [] H Hr := ⟨by omega, fun id hid _ => by rw [← hHr, List.append_assoc, List.append_assoc, List.getElem?_append_left hid]⟩
  have r2 : getC Hr H.length 0 = some [.s (.int .i64 0)] := by rw [← hHr]; exact getC_app (getC_app (getC_new H 0 _))
  have r3 : getC Hr (H.length + 1) 0 = some [.s (.bool false)] := by
    rw [← hHr]
    refine getC_app ?_
    have := getC_new (H ++ [Ob.cells 0 [V.s (.int .i64 0)]]) 0 [V.s (.bool false)]
    simpa using this
  have rbx : getC Hr (H.length + 2) 0 = some [.ref i 0 0] := by
    rw [← hHr]
    have := getC_new (H ++ [Ob.cells 0 [V.s (.int .i64 0)]] ++ [Ob.cells 0 [V.s (.bool false)]]) 0 [V.ref i 0 0]
    simpa using this
  have rp : SetP Hr i j p := hEr.setP hp hil ⟨by simp, by simp⟩
  have hdist : i ∉ [H.length, H.length + 1] ∧ j ∉ [H.length, H.length + 1] := by simp; omega
  obtain ⟨e, H2, hr1, hr2, hr3⟩ := rng_all (CT := CT) h.toTB (base := base) (H := Hr) (bx := H.length + 2) (fr := frOf 15 [(2, .ref H.length 0 0), (3, .ref (H.length + 1) 0 0), (7, .fn k_bits_Set_all_1 [] [.ref (H.length + 2) 0 0])]) (ps := [8, 9]) (a := s_bits_Set_Least_a0) (b := s_bits_Set_Least_b0) (D := [H.length, H.length + 1])
    (Inv := fun pre H' => pre = [] ∧ getC H' H.length 0 = some [.s (.int .i64 0)] ∧ getC H' (H.length + 1) 0 = some [.s (.bool false)]) (Q := fun H' => ∃ x r, el p = x :: r ∧ getC H' H.length 0 = some [.s (.int .i64 x)] ∧ getC H' (H.length + 1) 0 = some [.s (.bool true)]) (ex := .ret)
    (frA := fun k w => frOf 15 [(2, .ref H.length 0 0), (3, .ref (H.length + 1) 0 0), (7, .fn k_bits_Set_all_1 [] [.ref (H.length + 2) 0 0]), (8, .s (.int .i64 k)), (9, .s (.int .u64 w))])
    (frB := fun k w => frOf 15 [(2, .ref H.length 0 0), (3, .ref (H.length + 1) 0 0), (4, .s (.int .i64 k)), (5, .s (.int .u64 w))])
    rp rbx (by simp) (by omega) hl (by simp; omega) (fun k w => by simp only [am0,am1,am2,am3,am4,am5,am6,am7,bl,i64,reduceIte,reduceCtorEq,Nat.reduceEqDiff,Nat.reduceLT,Nat.reduceLeDiff,Nat.reduceBEq,Nat.reduceAdd,fillA,splice,Nat.reduceMul,al0,al1,al2,al3,al4,al5,al6,al7,al8,al9,al10,al11,al12,al13,al14,al15,al16,al17,al18,al19,al20,al21,al22,al23,al24,al25,al26,al27,al28,al29,al30,al31,al32,al33,al34,amY,op_eqP]) (fun k w H => by simp only [s_bits_Set_Least_a0, a_bits_Set_Least, am0,am1,am2,am3,am4,am5,am6,am7,bl,i64,reduceIte,reduceCtorEq,Nat.reduceEqDiff,Nat.reduceLT,Nat.reduceLeDiff,Nat.reduceBEq,Nat.reduceAdd,fillA,splice,Nat.reduceMul,al0,al1,al2,al3,al4,al5,al6,al7,al8,al9,al10,al11,al12,al13,al14,al15,al16,al17,al18,al19,al20,al21,al22,al23,al24,al25,al26,al27,al28,al29,al30,al31,al32,al33,al34,amY,op_eqP])
    (fun G => ⟨rfl, getC_app r2, getC_app r3⟩) (fun pre H' m fr ⟨a, b, c⟩ hm => ⟨a, trim_get b (by omega), trim_get c (by omega)⟩)
    (fun pre H' ob ⟨a, b, c⟩ => ⟨a, by rw [getC_other (by omega)]; exact b, by rw [getC_other (by omega)]; exact c⟩)
    (fun H' m fr ⟨x, r, a, b, c⟩ hm => ⟨x, r, a, trim_get b (by omega), trim_get c (by omega)⟩) (fun H' ob ⟨x, r, a, b, c⟩ => ⟨x, r, a, by rw [getC_other (by omega)]; exact b, by rw [getC_other (by omega)]; exact c⟩)
    (fun pre k post H' hs hI hK => ⟨j, p, hK.setP rp ⟨by omega, by omega⟩ hdist, rfl⟩)
    (fun pre k post H' hs hI hK hlt => by
      obtain ⟨rfl, hI2, hI3⟩ := hI
      have hkr : k ∈ p.1 := mem_sortI.1 (by rw [hs]; simp)
      have h0 : p.2 k ≠ 0 := (hp.wd.iff k).1 hkr
      have hbd := least_body h (base := base) (t2 := H.length) (t3 := H.length + 1) (by omega) (by omega) (by omega) hI2 hI3 (hp.wd.nn k hkr) (hp.wd.lt k) h0
      have hel : el p = (k * 64 + (Lib.ctz 64 (p.2 k) : Nat)) :: (wbits k (p.2 k &&& (p.2 k - 1)) ++ post.flatMap fun k => wbits k (p.2 k)) := by
        rw [el_flat, hs, List.nil_append, List.flatMap_cons, wbits_cons k h0 (hp.wd.lt k), List.cons_append]
      refine ⟨_, _, _, hbd, ⟨by rw [List.length_set, List.length_set]; exact hlt, fun id h1 h2 => ?_⟩, .inr ⟨rfl, by simp, _, _, hel, ?_, ?_⟩⟩
      · simp at h2
        rw [List.getElem?_set_ne (by omega), List.getElem?_set_ne (by omega)]
      · rw [getC_other (by omega)]; exact getC_set hI2 0
      · have h3' : getC (H'.set H.length (.cells 0 [.s (.int .i64 (k * 64 + (Lib.ctz 64 (p.2 k) : Nat)))])) (H.length + 1) 0 = some [.s (.bool false)] := by rw [getC_other (by omega)]; exact hI3
        exact getC_set h3' 0)
  have hfin : KeepD H.length [] H H2 := ⟨by have := hr2.1; omega, fun id h1 _ => by rw [hr2.2 id (by omega) (by simp; omega), hEr.2 id h1 (by simp)]⟩
  rcases hr3 with ⟨rfl, hI, hI2, hI3⟩ | ⟨rfl, _, x, r, hel, hQ2, hQ3⟩
  · have hel : el p = [] := by rw [el_flat, hI]; rfl
    have e2 : storeV H2 base 1 (.s (.int .i64 0)) (.ref H.length 0 0) = some H2 := by rw [storeV_at hI2 (by omega) rfl (by simp)]; exact congrArg some (getC_same hI2)
    have e3 : storeV H2 base 1 (.s (.bool false)) (.ref (H.length + 1) 0 0) = some H2 := by rw [storeV_at hI3 (by omega) rfl (by simp)]; exact congrArg some (getC_same hI3)
    refine ⟨H2, ?_, hfin⟩
    rw [hel]
    refine callW_fnA (c := s_bits_Set_Least) (k := 1) h.least rfl (by decide) s_bits_Set_Least_first ?_
    simp only [s_bits_Set_Least, a_bits_Set_Least, e2, ↓e2, e3, ↓e3, am0,am1,am2,am3,am4,am5,am6,am7,bl,i64,reduceIte,reduceCtorEq,Nat.reduceEqDiff,Nat.reduceLT,Nat.reduceLeDiff,Nat.reduceBEq,Nat.reduceAdd,fillA,splice,Nat.reduceMul,al0,al1,al2,al3,al4,al5,al6,al7,al8,al9,al10,al11,al12,al13,al14,al15,al16,al17,al18,al19,al20,al21,al22,al23,al24,al25,al26,al27,al28,al29,al30,al31,al32,al33,al34,amY,op_eqP, hal, hHr, hr1, load1 hI2, load1 hI3, leastV]
    done
  · refine ⟨H2, ?_, hfin⟩
    rw [hel]
    refine callW_fnA (c := s_bits_Set_Least) (k := 1) h.least rfl (by decide) s_bits_Set_Least_first ?_
    simp only [s_bits_Set_Least, a_bits_Set_Least, am0,am1,am2,am3,am4,am5,am6,am7,bl,i64,reduceIte,reduceCtorEq,Nat.reduceEqDiff,Nat.reduceLT,Nat.reduceLeDiff,Nat.reduceBEq,Nat.reduceAdd,fillA,splice,Nat.reduceMul,al0,al1,al2,al3,al4,al5,al6,al7,al8,al9,al10,al11,al12,al13,al14,al15,al16,al17,al18,al19,al20,al21,al22,al23,al24,al25,al26,al27,al28,al29,al30,al31,al32,al33,al34,amY,op_eqP, hal, hHr, hr1, load1 hQ2, load1 hQ3, leastV]
    done
end
end Go.Proofs.YtccallbknpbggaaDoor
namespace Go.AM
def fNat {α : Type} (n : Nat) (k : Nat → α) : α := match n with
  | 0 => k 0
  | p + 1 => k (p + 1)
theorem fNat_eq {α : Type} (n : Nat) (k : Nat → α) : fNat n k = k n := by cases n <;> rfl
def fInt {α : Type} (n : Int) (k : Int → α) : α := match n with
  | .ofNat m => fNat m fun m => k (.ofNat m)
  | .negSucc m => fNat m fun m => k (.negSucc m)
theorem fInt_eq {α : Type} (n : Int) (k : Int → α) : fInt n k = k n := by cases n <;> simp [fInt, fNat_eq]
def fBool {α : Type} (b : Bool) (k : Bool → α) : α := match b with
  | false => k false
  | true => k true
theorem fBool_eq {α : Type} (b : Bool) (k : Bool → α) : fBool b k = k b := by cases b <;> rfl
def fVal {α : Type} (v : Value) (k : Value → α) : α :=
  match v with
  | .bool b => fBool b fun b => k (.bool b)
  | .int t n => fInt n fun n => k (.int t n)
  | v => k v
theorem fVal_eq {α : Type} (v : Value) (k : Value → α) : fVal v k = k v := by cases v <;> simp [fVal, fInt_eq, fBool_eq]
mutual
def fV {α : Type} : V → (V → α) → α
  | .s v, k => fVal v fun v => k (.s v)
  | .agg cs, k => fVs cs fun cs => k (.agg cs)
  | .tup cs, k => fVs cs fun cs => k (.tup cs)
  | .ref i g o, k => fNat i fun i => fNat g fun g => fNat o fun o => k (.ref i g o)
  | .sl i g o l z, k => fNat i fun i => fNat g fun g => fNat o fun o => fNat l fun l => k (.sl i g o l z)
  | .mp i, k => fNat i fun i => k (.mp i)
  | .fn f a b, k => fVs a fun a => fVs b fun b => k (.fn f a b)
  | .pref cs, k => fVs cs fun cs => k (.pref cs)
  | .psl es z, k => k (.psl es z)
  | .esl, k => k .esl
  | .yld i, k => fNat i fun i => k (.yld i)
  | .ifc t v, k => k (.ifc t v)
  | .unk, k => k .unk
def fVs {α : Type} : List V → (List V → α) → α
  | [], k => k []
  | x :: xs, k => fV x fun x => fVs xs fun xs => k (x :: xs)
end
mutual
theorem fV_eq {α : Type} : ∀ (v : V) (k : V → α), fV v k = k v
  | .s v, k => by simp [fV, fVal_eq]
  | .agg cs, k => by simp [fV, fVs_eq]
  | .tup cs, k => by simp [fV, fVs_eq]
  | .ref i g o, k => by simp [fV, fNat_eq]
  | .sl i g o l z, k => by simp [fV, fNat_eq]
  | .mp i, k => by simp [fV, fNat_eq]
  | .fn f a b, k => by simp [fV, fVs_eq]
  | .pref cs, k => by simp [fV, fVs_eq]
  | .psl es z, k => rfl
  | .esl, k => rfl
  | .yld i, k => by simp [fV, fNat_eq]
  | .ifc t v, k => rfl
  | .unk, k => rfl
theorem fVs_eq {α : Type} : ∀ (l : List V) (k : List V → α), fVs l k = k l
  | [], k => rfl
  | x :: xs, k => by simp [fVs, fV_eq, fVs_eq]
end
def fSp {α β : Type} : List β → (List β → α) → α
  | [], k => k []
  | x :: xs, k => fSp xs fun xs => k (x :: xs)
theorem fSp_eq {α β : Type} : ∀ (l : List β) (k : List β → α), fSp l k = k l
  | [], k => rfl
  | x :: xs, k => by simp [fSp, fSp_eq]
def fOb {α : Type} (o : Ob) (k : Ob → α) : α :=
  match o with
  | .cells g c => fNat g fun g => fVs c fun c => k (.cells g c)
  | .map es => fSp es fun es => k (.map es)
  | o => k o
theorem fOb_eq {α : Type} (o : Ob) (k : Ob → α) : fOb o k = k o := by cases o <;> simp [fOb, fNat_eq, fVs_eq, fSp_eq]
def fH {α : Type} : Heap → (Heap → α) → α
  | [], k => k []
  | x :: xs, k => fOb x fun x => fH xs fun xs => k (x :: xs)
theorem fH_eq {α : Type} : ∀ (l : Heap) (k : Heap → α), fH l k = k l
  | [], k => rfl
  | x :: xs, k => by simp [fH, fOb_eq, fH_eq]
def bndL (look : Opd → V) (d : Nat) : Option Opd → Option Int
  | none => some d
  | some x => intOf? (look x)
def evOpL (call : CallF) (base : Nat) (look : Opd → V) (H : Heap) : AOp → Option (V × Heap)
  | .move x => some (look x, H)
  | .pick c a b => match look c with
    | .s (.bool true) => some (look a, H)
    | .s (.bool false) => some (look b, H)
    | _ => none
  | .alloc zero => some (.ref H.length 0 0, H ++ [.cells 0 zero])
  | .box x => let v := look x; if v.cells.all V.one then some (.ref H.length 0 0, H ++ [.cells 0 v.cells]) else none
  | .build zero places parts => match fillA (places[·]?) zero (parts.map fun p => (p.1, look p.2)) with
    | some cs => some (.agg cs, H)
    | none => none
  | .buildSl sz len zero parts => match fillA (fun i => some (i * sz, sz)) zero (parts.map fun p => (p.1, look p.2)) with
    | some cs => some (if len = 0 then .esl else .sl H.length 0 0 len sz, H ++ [.cells 0 cs])
    | none => none
  | .mapNew => some (.mp H.length, H ++ [.map []])
  | .mapUpd kind m k v => match look m, look k with
    | .mp id, .s key => if base ≤ id ∧ keyOk kind key then match H[id]? with
        | some (.map es) => match findA kind key es 0 with
          | some (some (i, _)) => some (und, H.set id (.map (es.set i (key, look v))))
          | some none => some (und, H.set id (.map (es ++ [(key, look v)])))
          | none => none
        | _ => none
      else none
    | _, _ => none
  | .mapGet kind zero m k ok => match look k with
    | .s key => if keyOk kind key then
        match look m with
        | .s (.map none) => some (if ok then .tup [zero, bl false] else zero, H)
        | .mp id => match H[id]? with
          | some (.map es) => match findA kind key es 0 with
            | some (some (_, v)) => some (if ok then .tup [v, bl true] else v, H)
            | some none => some (if ok then .tup [zero, bl false] else zero, H)
            | none => none
          | _ => none
        | _ => none
      else none
    | _ => none
  | .load agg n a => (loadV H agg n (look a)).map fun v => (v, H)
  | .store n a v => (storeV H base n (look v) (look a)).map fun H => (und, H)
  | .nilCheck x => match look x with
    | .ref id g off => some (.ref id g off, H)
    | .pref cs => some (.pref cs, H)
    | .fn f a b => some (.fn f a b, H)
    | .yld id => some (.yld id, H)
    | _ => none
  | .bin op x y => match look x, look y with
    | .s a, .s b => (binS op a b).map fun v => (.s v, H)
    | _, _ => none
  | .eqB neg x y => match look x, look y with
    | .s (.bool a), .s (.bool b) => some (bl ((a == b) != neg), H)
    | _, _ => none
  | .eqP neg x y => match look x, look y with
    | .ref i g _, .ref j h _ => if i = j then none else match getC H i g, getC H j h with
      | some _, some _ => some (bl neg, H)
      | _, _ => none
    | _, _ => none
  | .eqNil k neg x => match (look x).isNil k with
    | some b => some (bl (b != neg), H)
    | none => none
  | .eqAgg neg ls x y => match look x, look y with
    | .agg xs, .agg ys => match eqLeaves ls xs ys with
      | some b => some (bl (b != neg), H)
      | none => none
    | _, _ => none
  | .un op x => match op, look x with
    | .not, .s (.bool b) => some (bl (!b), H)
    | .neg, .s (.int k n) => some (.s (.int k (k.wrap (0 - n))), H)
    | .xor, .s (.int k n) => (binS .xor (.int k (if k.signed then -1 else k.max)) (.int k n)).map fun v => (.s v, H)
    | _, _ => none
  | .conv k x => match look x with
    | .s (.int _ n) => some (.s (.int k (k.wrap n)), H)
    | _ => none
  | .convId x => match look x with
    | .s (.string b) => some (.s (.string b), H)
    | _ => none
  | .mkFn f fst cap => some (.fn f (fst.map (look)) (cap.map (look)), H)
  | .mkSl zero sz bytes len cap => match look len, look cap with
    | .s (.int _ l), .s (.int _ c) =>
      if 0 ≤ l ∧ l ≤ c ∧ c * bytes ≤ 2 ^ 47 then some (.sl H.length 0 0 l.toNat sz, H ++ [.cells 0 (List.replicate l.toNat zero).flatten]) else none
    | _, _ => none
  | .subStr x lo hi => match look x with
    | .s (.string b) => match bndL look 0 lo, bndL look b.size hi with
      | some l, some h => if 0 ≤ l ∧ l ≤ h ∧ h ≤ b.size then some (.s (.string (b.extract l.toNat h.toNat)), H) else none
      | _, _ => none
    | _ => none
  | .subSl sz x lo hi mx =>
    match mx with
    | none => match look x with
      | .s (.slice none 0 0) => match bndL look 0 lo, bndL look 0 hi with
        | some 0, some 0 => some (nilS, H)
        | _, _ => none
      | .esl => match bndL look 0 lo, bndL look 0 hi with
        | some 0, some 0 => some (.esl, H)
        | _, _ => none
      | .psl es sz' => match bndL look 0 lo, bndL look es.length hi with
        | some l, some h => if 0 ≤ l ∧ l ≤ h ∧ h ≤ es.length ∧ sz' = sz then some (.psl ((es.drop l.toNat).take (h - l).toNat) sz, H) else none
        | _, _ => none
      | .sl id g off len sz' => match bndL look 0 lo, bndL look len hi with
        | some l, some h => if 0 ≤ l ∧ l ≤ h ∧ h ≤ len ∧ sz' = sz then some (.sl id g (off + l.toNat * sz) (h - l).toNat sz, H) else none
        | _, _ => none
      | _ => none
    | some m => match hi, bndL look 0 lo with
      | some h, some 0 => match intOf? (look h), intOf? (look m) with
        | some 0, some 0 => match look x with
          | .s (.slice none 0 0) => some (nilS, H)
          | .esl => some (.esl, H)
          | .psl _ _ => some (.esl, H)
          | .sl _ _ _ _ _ => some (.esl, H)
          | _ => none
        | _, _ => none
      | _, _ => none
  | .fieldAddr off x => match look x with
    | .ref id g o => some (.ref id g (o + off), H)
    | .pref cs => if off ≤ cs.length then some (.pref (cs.drop off), H) else none
    | _ => none
  | .field agg off n x => match look x with
    | .agg cs => let cs := (cs.drop off).take n; if cs.length = n then (shut agg cs).map fun v => (v, H) else none
    | _ => none
  | .indexAddr sz x i => match look x, look i with
    | .sl id g off len sz', .s (.int _ n) => if 0 ≤ n ∧ n < len ∧ sz' = sz then some (.ref id g (off + n.toNat * sz), H) else none
    | .psl es sz', .s (.int _ n) => if 0 ≤ n ∧ sz' = sz then match es[n.toNat]? with
        | some e => some (.pref e, H)
        | none => none
      else none
    | _, _ => none
  | .indexStr x i => match look x, look i with
    | .s (.string b), .s (.int _ n) => if 0 ≤ n then match b.data.toList[n.toNat]? with
        | some c => some (.s (.int .u8 c.toNat), H)
        | none => none
      else none
    | _, _ => none
  | .extract x i => match look x with
    | .tup vs => match vs[i]? with
      | some v => some (v, H)
      | none => none
    | _ => none
  | .lenS k x => match k, look x with
    | .p, .s (.string b) => some (i64 b.size, H)
    | .s, .s (.slice none 0 0) => some (i64 0, H)
    | .m, .s (.map none) => some (i64 0, H)
    | .s, .esl => some (i64 0, H)
    | .s, .psl es _ => some (i64 es.length, H)
    | .s, .sl _ _ _ len _ => some (i64 len, H)
    | .m, .mp id => match H[id]? with
      | some (.map es) => some (i64 es.length, H)
      | _ => none
    | _, _ => none
  | .append sz bytes s x => appendV H base sz bytes (look s) (look x)
  | .delete kind m k => match look m, look k with
    | .mp id, .s key => if base ≤ id ∧ keyOk kind key then match H[id]? with
        | some (.map es) => match findA kind key es 0 with
          | some (some (i, _)) => some (und, H.set id (.map (es.eraseIdx i)))
          | some none => some (und, H)
          | none => none
        | _ => none
      else none
    | _, _ => none
  | .minmax mx x y => match look x, look y with
    | .s (.int k a), .s (.int k' b) => if k = k' then some (.s (.int k (if mx then (if a < b then b else a) else (if b < a then b else a))), H) else none
    | _, _ => none
  | .call f args => call (look f) (args.map (look)) base H
  | .callR f args => call (look f) (args.map (look)) H.length H
  | .callP f args =>
    let vs := args.map (look)
    match vs.mapM (frz H 12) with
    | some us => match call (.fn f [] []) us 0 [] with
      | some (v, H') => match frz H' 12 v with
        | some u => if vs.all (isPure 12) || u.flat2 then some (u, H) else none
        | none => none
      | none => none
    | none => none
  | .callQ f args =>
    if (args.map (look)).all (isPure 12) then
      match call (.fn f [] []) (args.map (look)) 0 [] with
      | some (v, H') => match frz H' 12 v with
        | some u => some (u, H)
        | none => none
      | none => none
    else none
  | .clearSl sz zero x => match look x with
    | .s (.slice none 0 0) => some (und, H)
    | .esl => some (und, H)
    | .sl id g off len sz' => if len = 0 then some (und, H) else if base ≤ id ∧ sz' = sz then match getC H id g with
        | some c => if zero.length = sz ∧ off + len * sz ≤ c.length ∧ zero.all V.one then some (und, H.set id (.cells g (splice c off (List.replicate len zero).flatten))) else none
        | none => none
      else none
    | _ => none
theorem bndL_eq (fr : List V) (d : Nat) (o : Option Opd) : bndA fr d o = bndL (ev fr) d o := by cases o <;> rfl
theorem evOpL_eq (call : CallF) (base : Nat) (fr : List V) (H : Heap) (o : AOp) : evOpL call base (ev fr) H o = evOp call base fr H o := by
  cases o <;> first | rfl | (simp only [evOpL, evOp, bndL_eq]; done) | (simp only [evOpL, evOp, bndL_eq]; rfl)
def fHeap {α : Type} (o : AOp) (H : Heap) (k : Heap → α) : α :=
  match o with
  | .alloc _ | .box _ | .buildSl .. | .mapNew | .mkSl .. | .append .. | .mapUpd .. | .store .. | .delete .. | .clearSl .. => fH H k
  | _ => k H
theorem fHeap_eq {α : Type} (o : AOp) (H : Heap) (k : Heap → α) : fHeap o H k = k H := by cases o <;> simp [fHeap, fH_eq]
def getE : Env → Nat → V
  | [], _ => .unk
  | (k, x) :: e, s => match Nat.beq s k with
    | true => x
    | false => getE e s
theorem getE_eq (s : Nat) : ∀ en : Env, getE en s = getV en s := by
  intro en
  induction en with
  | nil => rfl
  | cons p e ih =>
    obtain ⟨k, x⟩ := p
    simp only [getE, getV]
    by_cases h : s = k
    · have : Nat.beq s k = true := by simpa using h
      rw [this, if_pos h]
    · have : Nat.beq s k = false := by
        cases hb : Nat.beq s k with
        | true => exact absurd (Nat.eq_of_beq_eq_true hb) h
        | false => rfl
      rw [this, if_neg h, ih]
def lookE (en : Env) : Opd → V
  | .t i => getE en i
  | .c v => v
def wfE (n : Nat) (en : Env) : Prop := ∀ p ∈ en, p.1 < n
theorem getV_out {n : Nat} {en : Env} (h : wfE n en) {s : Nat} (hs : n ≤ s) : getV en s = .unk := by
  induction en with
  | nil => rfl
  | cons p e ih =>
    obtain ⟨k, x⟩ := p
    have := h _ (List.mem_cons_self)
    simp only [getV]
    rw [if_neg (by simp at this; omega)]
    exact ih fun q hq => h q (List.mem_cons_of_mem _ hq)
theorem frOf_getD {n : Nat} {en : Env} (h : wfE n en) (s : Nat) : (frOf n en).getD s .unk = getV en s := by
  by_cases hs : s < n
  · exact frOf_get hs
  · rw [getV_out h (by omega)]
    simp [frOf, List.getD, hs]
theorem lookE_eq {n : Nat} {en : Env} (h : wfE n en) : lookE en = ev (frOf n en) := by
  funext x
  cases x with
  | t i => simp only [lookE, ev, getE_eq, frOf_getD h]
  | c v => rfl
def putE (n : Nat) (d : Option Nat) (v : V) (en : Env) : Env :=
  match d with
  | some d => match Nat.blt d n with
    | true => (d, v) :: en
    | false => en
  | none => en
theorem putE_wf {n : Nat} {d : Option Nat} {v : V} {en : Env} (h : wfE n en) : wfE n (putE n d v en) := by
  cases d with
  | none => exact h
  | some d =>
    simp only [putE]
    cases hb : Nat.blt d n with
    | true => intro p hp; rcases List.mem_cons.1 hp with rfl | hp; (exact Nat.blt_eq.mp hb); exact h p hp
    | false => exact h
theorem putE_eq {n : Nat} {d : Option Nat} {v : V} {en : Env} : frOf n (putE n d v en) = put d v (frOf n en) := by
  cases d with
  | none => rfl
  | some d =>
    simp only [putE, put]
    cases hb : Nat.blt d n with
    | true =>
      refine (fr_eq (by rw [List.length_set, frOf_length]) fun t ht => ?_).symm
      simp only [getV]
      by_cases e : t = d
      · subst e; rw [if_pos rfl, getD_set_same (by rw [frOf_length]; exact ht)]
      · rw [if_neg e, getD_set_other (fun h => e h.symm), frOf_get ht]
    | false =>
      have : ¬ d < n := fun h => by rw [Nat.blt_eq.mpr h] at hb; cases hb
      rw [List.set_eq_of_length_le (by rw [frOf_length]; omega)]
def compactE (mask : Nat) : Env → Env
  | [] => []
  | (s, v) :: e => match mask.testBit s with
    | true => compactE mask e
    | false => (s, v) :: compactE (mask ||| (1 <<< s)) e
theorem testBit_or (m s t : Nat) : (m ||| (1 <<< s)).testBit t = (m.testBit t || decide (t = s)) := by
  rw [Nat.testBit_or, Nat.one_shiftLeft, Nat.testBit_two_pow]
  congr 1
  simp [eq_comm]
theorem getV_compact (s : Nat) : ∀ (en : Env) (mask : Nat), getV (compactE mask en) s = if mask.testBit s then .unk else getV en s := by
  intro en
  induction en with
  | nil => intro mask; simp [compactE, getV]
  | cons p e ih =>
    obtain ⟨k, x⟩ := p
    intro mask
    simp only [compactE]
    cases hb : mask.testBit k with
    | true =>
      simp only [ih, getV]
      by_cases h : s = k
      · subst h; simp [hb]
      · rw [if_neg h]
    | false =>
      simp only [getV, ih, testBit_or]
      by_cases h : s = k
      · subst h; simp [hb]
      · simp [h]
theorem compact_mem {p : Nat × V} : ∀ {en : Env} {mask : Nat}, p ∈ compactE mask en → p ∈ en ∧ mask.testBit p.1 = false := by
  intro en
  induction en with
  | nil => intro mask h; cases h
  | cons q e ih =>
    obtain ⟨k, x⟩ := q
    intro mask h
    simp only [compactE] at h
    cases hb : mask.testBit k with
    | true => rw [hb] at h; obtain ⟨h1, h2⟩ := ih h; exact ⟨List.mem_cons_of_mem _ h1, h2⟩
    | false =>
      rw [hb] at h
      rcases List.mem_cons.1 h with rfl | h
      · exact ⟨List.mem_cons_self, hb⟩
      · obtain ⟨h1, h2⟩ := ih h
        rw [testBit_or] at h2
        simp only [Bool.or_eq_false_iff] at h2
        exact ⟨List.mem_cons_of_mem _ h1, h2.1⟩
theorem compact_wf {n mask : Nat} {en : Env} (h : wfE n en) : wfE n (compactE mask en) := fun p hp => h p (compact_mem hp).1
theorem compact_val : ∀ {en : Env} {mask : Nat} {p : Nat × V}, p ∈ compactE mask en → getV (compactE mask en) p.1 = p.2 := by
  intro en
  induction en with
  | nil => intro mask p h; cases h
  | cons q e ih =>
    obtain ⟨k, x⟩ := q
    intro mask p h
    simp only [compactE] at h ⊢
    cases hb : mask.testBit k with
    | true => rw [hb] at h; exact ih h
    | false =>
      rw [hb] at h
      rcases List.mem_cons.1 h with rfl | h
      · simp [getV]
      · have h3 := (compact_mem h).2
        rw [testBit_or] at h3
        simp only [Bool.or_eq_false_iff, decide_eq_false_iff_not] at h3
        simp only [getV, if_neg h3.2]
        exact ih h
def maskOf : List Nat → Nat
  | [] => 0
  | s :: l => maskOf l ||| (1 <<< s)
theorem maskOf_bit (s : Nat) : ∀ l : List Nat, (maskOf l).testBit s = l.contains s := by
  intro l
  induction l with
  | nil => simp [maskOf]
  | cons a l ih => rw [maskOf, testBit_or, ih, List.contains_cons, Bool.or_comm]; congr 1
theorem compact_kill {n : Nat} {en : Env} (l : List Nat) : frOf n (compactE (maskOf l) en) = killS l (frOf n en) := by
  rw [frOf_kill]
  exact frOf_ext fun s _ => by rw [getV_compact, getV_kill, maskOf_bit]
theorem compact_zero {n : Nat} {en : Env} : frOf n (compactE 0 en) = frOf n en := frOf_ext fun s _ => by rw [getV_compact]; simp
def trimE (m : Nat) (en : Env) (H : Heap) : Heap :=
  if en.all (fun p => idsUnder m 8 p.2) && (H.take m).all (Ob.under m) then H.take m else H
theorem trimE_eq {n m mask : Nat} {en : Env} {H : Heap} (hw : wfE n en) : trimE m (compactE mask en) H = trim m (frOf n (compactE mask en)) H := by
  have : (compactE mask en).all (fun p => idsUnder m 8 p.2) = (frOf n (compactE mask en)).all (idsUnder m 8) := by
    rw [Bool.eq_iff_iff, List.all_eq_true, List.all_eq_true]
    constructor
    · intro h v hv
      unfold frOf at hv
      rw [List.mem_map] at hv
      obtain ⟨s, _, rfl⟩ := hv
      have key : ∀ en : Env, (∀ p ∈ en, idsUnder m 8 p.2 = true) → idsUnder m 8 (getV en s) = true := by
        intro en
        induction en with
        | nil => intro _; rfl
        | cons q e ih =>
          intro h
          simp only [getV]
          split
          · exact h q List.mem_cons_self
          · exact ih fun p hp => h p (List.mem_cons_of_mem _ hp)
      exact key _ h
    · intro h p hp
      rw [← compact_val hp]
      refine h _ ?_
      unfold frOf
      rw [List.mem_map]
      exact ⟨p.1, by simpa using hw p (compact_mem hp).1, rfl⟩
  unfold trimE trim
  rw [this]
def wantE (o : AOper) (en : Env) : Option Bool :=
  match o.guard with
  | none => some true
  | some (t, b) => match getE en t with
    | .s (.bool x) => some (x == b)
    | .s (.tuple _) => some false
    | _ => none
theorem wantE_eq {n : Nat} {en : Env} (h : wfE n en) (o : AOper) : wantE o en = want o (frOf n en) := by
  unfold wantE want
  cases o.guard with
  | none => rfl
  | some g => simp only [getE_eq, frOf_getD h]; rfl
def evOpsE (n : Nat) (call : CallF) (base : Nat) : List AOper → Env → Heap → Option (Env × Heap)
  | [], en, H => some (en, H)
  | o :: os, en, H => match wantE o en with
    | none => none
    | some false => evOpsE n call base os (putE n o.dst und en) H
    | some true => match evOpL call base (lookE en) H o.op with
      | some (v, H') => fV v fun v => fHeap o.op H' fun H' => evOpsE n call base os (putE n o.dst v en) H'
      | none => none
def up {α : Type} (n : Nat) : Option (α × Env × Heap) → Option (α × List V × Heap)
  | some (e, en, H) => some (e, frOf n en, H)
  | none => none
def up2 (n : Nat) : Option (Env × Heap) → Option (List V × Heap)
  | some (en, H) => some (frOf n en, H)
  | none => none
theorem evOpsE_eq (n : Nat) (call : CallF) (base : Nat) : ∀ (l : List AOper) (en : Env) (H : Heap), wfE n en → evOps call base l (frOf n en) H = up2 n (evOpsE n call base l en H) ∧ ∀ en' H', evOpsE n call base l en H = some (en', H') → wfE n en' := by
  intro l
  induction l with
  | nil => intro en H hw; exact ⟨rfl, fun en' H' h => by cases h; exact hw⟩
  | cons o os ih =>
    intro en H hw
    simp only [evOpsE, evOps, fV_eq, fHeap_eq, wantE_eq hw, lookE_eq hw, evOpL_eq]
    cases want o (frOf n en) with
    | none => exact ⟨rfl, fun _ _ h => by cases h⟩
    | some b =>
      cases b with
      | false => simp only [← putE_eq]; exact ih _ _ (putE_wf hw)
      | true =>
        simp only []
        cases evOp call base (frOf n en) H o.op with
        | none => exact ⟨rfl, fun _ _ h => by cases h⟩
        | some r => obtain ⟨v, H'⟩ := r; simp only [← putE_eq]; exact ih _ _ (putE_wf hw)
def iterE (body : Env → Heap → Option (Ex × Env × Heap)) (kill : List Nat) (m : Nat) : Nat → Env → Heap → Option (Ex × Env × Heap)
  | 0, _, _ => none
  | j + 1, en, H => match body en H with
    | some (.nrm, en', H') => fSp (compactE (maskOf kill) en') fun en' => iterE body kill m j en' (trimE m en' H')
    | some (e, en', H') => fSp (compactE (maskOf kill) en') fun en' => some (e, en', trimE m en' H')
    | none => none
theorem iterE_eq {n : Nat} {b : List V → Heap → Option St} {b' : Env → Heap → Option (Ex × Env × Heap)} (hb : ∀ en H, wfE n en → b (frOf n en) H = up n (b' en H) ∧ ∀ e en' H', b' en H = some (e, en', H') → wfE n en') (kill : List Nat) (m : Nat) :
    ∀ (j : Nat) (en : Env) (H : Heap), wfE n en → iterN b kill m j (frOf n en) H = up n (iterE b' kill m j en H) ∧ ∀ e en' H', iterE b' kill m j en H = some (e, en', H') → wfE n en' := by
  intro j
  induction j with
  | zero => intro en H _; exact ⟨rfl, fun _ _ _ h => by cases h⟩
  | succ j ih =>
    intro en H hw
    obtain ⟨h1, h2⟩ := hb en H hw
    simp only [iterN, iterE, h1, fSp_eq]
    cases hr : b' en H with
    | none => exact ⟨rfl, fun _ _ _ h => by cases h⟩
    | some r =>
      obtain ⟨e, en', H'⟩ := r
      have hw' := h2 _ _ _ hr
      cases e with
      | nrm =>
        simp only [up, ← compact_kill, ← trimE_eq hw']
        exact ih _ _ (compact_wf hw')
      | ext id =>
        simp only [up, ← compact_kill, ← trimE_eq hw']
        exact ⟨by trivial, fun _ _ _ h => by cases h; exact compact_wf hw'⟩
      | ret =>
        simp only [up, ← compact_kill, ← trimE_eq hw']
        exact ⟨by trivial, fun _ _ _ h => by cases h; exact compact_wf hw'⟩
def evCE (n : Nat) (call : CallF) (j : Nat) (base : Nat) : ACode → Env → Heap → Option (Ex × Env × Heap)
  | .skip, en, H => some (.nrm, en, H)
  | .region ops chk kill, en, H => match evOpsE n call base ops en H with
    | some (en, H) => match chk with
      | [] => match kill with
        | [] => some (.nrm, en, H)
        | k :: ks => some (.nrm, compactE (maskOf (k :: ks)) en, H)
      | c :: cs => if (c :: cs).all (apartAt ops (frOf n en)) then some (.nrm, compactE (maskOf kill) en, H) else none
    | none => none
  | .regionE .., _, _ => none
  | .seq a b, en, H => match evCE n call j base a en H with
    | some (.nrm, en, H) => evCE n call j base b en H
    | r => r
  | .cond c a b, en, H => match lookE en c with
    | .s (.bool true) => evCE n call j base a en H
    | .s (.bool false) => evCE n call j base b en H
    | _ => none
  | .block id c, en, H => match evCE n call j base c en H with
    | some (.ext id', en, H) => some (match Nat.beq id' id with | true => .nrm | false => .ext id', en, H)
    | r => r
  | .loop kill c, en, H => fSp (compactE (maskOf kill) en) fun en => iterE (fun en H => evCE n call j base c en H) kill H.length j en H
  | .rangeFunc f params assign body, en, H =>
    fSp (compactE 0 en) fun en =>
    match lookE en f with
    | .fn k x y => match call (.fn k x y) [.yld H.length] base (H ++ [.loop .ready none (frOf n en) params assign body]) with
      | some (_, H') => match H'[H.length]? with
        | some (.loop .ready none _ _ _ _) => some (.nrm, en, trimE H.length en (H'.set H.length .dead))
        | some (.loop .done (some e) _ _ _ _) => some (e, en, trimE H.length en (H'.set H.length .dead))
        | _ => none
      | none => none
    | _ => none
  | .exit id, en, H => some (.ext id, en, H)
  | .ret, en, H => some (.ret, en, H)
def plainC : ACode → Bool
  | .regionE .. => false
  | .region ops chk _ => chk.all fun p => !(ops.getD p.1 default).op.isCallB && !(ops.getD p.2 default).op.isCallB
  | .seq a b => plainC a && plainC b
  | .cond _ a b => plainC a && plainC b
  | .block _ c => plainC c
  | .loop _ c => plainC c
  | _ => true
theorem evCE_eq (n : Nat) (call : CallF) (j : Nat) (base : Nat) : ∀ (c : ACode), plainC c = true → ∀ (en : Env) (H : Heap), wfE n en → evC call (fun b k m => iterN b k m j) base c (frOf n en) H = up n (evCE n call j base c en H) ∧ ∀ e en' H', evCE n call j base c en H = some (e, en', H') → wfE n en' := by
  intro c
  induction c with
  | skip => intro _ en H hw; exact ⟨rfl, fun _ _ _ h => by cases h; exact hw⟩
  | exit id => intro _ en H hw; exact ⟨rfl, fun _ _ _ h => by cases h; exact hw⟩
  | ret => intro _ en H hw; exact ⟨rfl, fun _ _ _ h => by cases h; exact hw⟩
  | regionE ops kill outs => intro h; simp [plainC] at h
  | region ops chk kill =>
    intro hp en H hw
    have hlate : ∀ fr H fr', chk.all (lateOk call base ops fr H fr') = chk.all (apartAt ops fr') := by
      intro fr H fr'
      simp only [plainC, List.all_eq_true, Bool.and_eq_true, Bool.not_eq_true'] at hp
      rw [Bool.eq_iff_iff, List.all_eq_true, List.all_eq_true]
      constructor
      · intro h p hm
        have := h p hm
        simpa only [lateOk, (hp p hm).1, (hp p hm).2, Bool.false_and, Bool.or_false] using this
      · intro h p hm
        simp only [lateOk, h p hm, Bool.true_or]
    obtain ⟨h1, h2⟩ := evOpsE_eq n call base ops en H hw
    simp only [evC, hlate, evCE, h1]
    cases hr : evOpsE n call base ops en H with
    | none => exact ⟨rfl, fun _ _ _ h => by cases h⟩
    | some r =>
      obtain ⟨en', H'⟩ := r
      have hw' := h2 _ _ hr
      simp only [up2]
      cases chk with
      | nil =>
        simp only [List.all_nil, if_true]
        cases kill with
        | nil => exact ⟨rfl, fun _ _ _ h => by cases h; exact hw'⟩
        | cons k ks => exact ⟨by simp only [up, compact_kill], fun _ _ _ h => by cases h; exact compact_wf hw'⟩
      | cons x xs =>
        simp only []
        split
        · exact ⟨by simp only [up, compact_kill], fun _ _ _ h => by cases h; exact compact_wf hw'⟩
        · exact ⟨rfl, fun _ _ _ h => by cases h⟩
  | seq a b iha ihb =>
    intro hp en H hw
    simp only [plainC, Bool.and_eq_true] at hp
    obtain ⟨h1, h2⟩ := iha hp.1 en H hw
    simp only [evC, evCE, h1]
    cases hr : evCE n call j base a en H with
    | none => exact ⟨rfl, fun _ _ _ h => by cases h⟩
    | some r =>
      obtain ⟨e, en', H'⟩ := r
      have hw' := h2 _ _ _ hr
      cases e with
      | nrm => exact ihb hp.2 en' H' hw'
      | ext id => exact ⟨rfl, fun _ _ _ h => by cases h; exact hw'⟩
      | ret => exact ⟨rfl, fun _ _ _ h => by cases h; exact hw'⟩
  | cond o a b iha ihb =>
    intro hp en H hw
    simp only [plainC, Bool.and_eq_true] at hp
    simp only [evC, evCE, lookE_eq hw]
    generalize ev (frOf n en) o = q
    cases q with
    | s v => cases v with
      | bool t => cases t with
        | true => exact iha hp.1 en H hw
        | false => exact ihb hp.2 en H hw
      | _ => exact ⟨rfl, fun _ _ _ h => by cases h⟩
    | _ => exact ⟨rfl, fun _ _ _ h => by cases h⟩
  | block id c ih =>
    intro hp en H hw
    obtain ⟨h1, h2⟩ := ih hp en H hw
    simp only [evC, evCE, h1]
    cases hr : evCE n call j base c en H with
    | none => exact ⟨rfl, fun _ _ _ h => by cases h⟩
    | some r =>
      obtain ⟨e, en', H'⟩ := r
      have hw' := h2 _ _ _ hr
      cases e with
      | nrm => exact ⟨rfl, fun _ _ _ h => by cases h; exact hw'⟩
      | ret => exact ⟨rfl, fun _ _ _ h => by cases h; exact hw'⟩
      | ext id' =>
        refine ⟨?_, fun _ _ _ h => by cases h; exact hw'⟩
        simp only [up]
        by_cases e : id' = id
        · have : Nat.beq id' id = true := by simpa using e
          rw [this, if_pos e]
        · have : Nat.beq id' id = false := by
            cases hb : Nat.beq id' id with
            | true => exact absurd (Nat.eq_of_beq_eq_true hb) e
            | false => rfl
          rw [this, if_neg e]
  | loop kill c ih =>
    intro hp en H hw
    simp only [evC, evCE, fSp_eq, ← compact_kill]
    exact iterE_eq (fun en H hw => ih hp en H hw) kill H.length j _ H (compact_wf hw)
  | rangeFunc f params a b _ _ =>
    intro _ en H hw
    have hw' := compact_wf (mask := 0) hw
    simp only [evC, evCE, fSp_eq]
    rw [← compact_zero (en := en), lookE_eq hw']
    generalize ev (frOf n (compactE 0 en)) f = q
    cases q with
    | fn k x y =>
      simp only []
      cases call (.fn k x y) [.yld H.length] base (H ++ [.loop .ready none (frOf n (compactE 0 en)) params a b]) with
      | none => exact ⟨rfl, fun _ _ _ h => by cases h⟩
      | some r =>
        obtain ⟨v, H1⟩ := r
        simp only [← trimE_eq hw]
        generalize H1[H.length]? = q
        cases q with
        | none => exact ⟨rfl, fun _ _ _ h => by cases h⟩
        | some ob =>
          cases ob with
          | loop st pend t p x y =>
            cases st <;> cases pend <;> first | exact ⟨rfl, fun _ _ _ h => by cases h; exact hw'⟩ | exact ⟨rfl, fun _ _ _ h => by cases h⟩
          | _ => exact ⟨rfl, fun _ _ _ h => by cases h⟩
    | _ => exact ⟨rfl, fun _ _ _ h => by cases h⟩
noncomputable def evCallE (CP : Nat → Option CFun) (call : CallF) (j : Nat) (v : V) (args : List V) (base : Nat) (H : Heap) : Option (V × Heap) :=
  match v with
  | .fn f fst cap => match CP f with
    | some (.code c) =>
      match plainC c.body with
      | true =>
        fVs (fst ++ args ++ cap) fun vs =>
        match Nat.ble vs.length c.ntmps with
        | true => match evCE c.ntmps call j base c.body (startV c.ntmps vs 0) H with
          | some (.nrm, en, H') => (resultV c.results (frOf c.ntmps en) H').map fun v => (v, H')
          | some (.ret, en, H') => (resultV c.results (frOf c.ntmps en) H').map fun v => (v, H')
          | _ => none
        | false => evCall CP call (fun b k m => iterN b k m j) v args base H
      | false => evCall CP call (fun b k m => iterN b k m j) v args base H
    | some (.prim g) => g (fst ++ args ++ cap) base H
    | none => none
  | v => evCall CP call (fun b k m => iterN b k m j) v args base H
theorem startV_wf (n : Nat) : ∀ (vs : List V) (k : Nat), vs.length + k ≤ n → wfE n (startV n vs k) := by
  intro vs
  induction vs with
  | nil =>
    intro k hk p hp
    simp only [startV, List.mem_map] at hp
    obtain ⟨s, hs, rfl⟩ := hp
    rw [List.mem_range'] at hs
    obtain ⟨i, hi, rfl⟩ := hs
    show k + 1 * i < n
    omega
  | cons v vs ih =>
    intro k hk p hp
    simp only [List.length_cons] at hk
    rcases List.mem_cons.1 hp with rfl | hp
    · show k < n; omega
    · exact ih (k + 1) (by omega) p hp
theorem evCallE_eq (CP : Nat → Option CFun) (call : CallF) (j : Nat) (v : V) (args : List V) (base : Nat) (H : Heap) : evCallE CP call j v args base H = evCall CP call (fun b k m => iterN b k m j) v args base H := by
  cases v <;> first | rfl | skip
  rename_i f fst cap
  simp only [evCallE, fVs_eq]
  cases hc : CP f with
  | none => simp only [evCall, hc]
  | some cf =>
    cases cf with
    | prim g => simp only [evCall, hc]
    | code c =>
      simp only []
      cases hp : plainC c.body with
      | false => rfl
      | true =>
        simp only []
        cases hl : Nat.ble (fst ++ args ++ cap).length c.ntmps with
        | false => rfl
        | true =>
          have hl := Nat.le_of_ble_eq_true hl
          simp only [evCall, hc]
          rw [start_eq hl]
          obtain ⟨h1, h2⟩ := evCE_eq c.ntmps call j base c.body hp _ H (startV_wf c.ntmps _ 0 (by omega))
          rw [h1]
          cases evCE c.ntmps call j base c.body (startV c.ntmps (fst ++ args ++ cap) 0) H with
          | none => rfl
          | some r => obtain ⟨e, en, H'⟩ := r; cases e <;> rfl
noncomputable def callE (CP : Nat → Option CFun) : Nat → CallF
  | 0 => fun _ _ _ _ => none
  | n + 1 => evCallE CP (callE CP n) n
theorem callE_eq (CP : Nat → Option CFun) : ∀ n, callE CP n = callN CP n
  | 0 => rfl
  | n + 1 => by
    funext v args base H
    simp only [callE, callN, evCallE_eq, callE_eq CP n]
open Go.RowKit
noncomputable def givesE (CP : Nat → Option CFun) (n k : Nat) : Option V := (callE CP n (.fn k [] []) [] 0 []).bind fun r => frz r.2 12 r.1
def primC (u : V) : List V → Nat → Heap → Option (V × Heap) := fun vs _ H => match vs with
  | [] => some (u, H)
  | _ => none
theorem prim_ok {P : Program} {pure' : PX} {CP : Nat → Option CFun} (hmix : P.follows .mixedOrders = true) (hCP : ∀ k c, CP k = some c → FunOk P pure' k c) {n k : Nat} {u : V} (h : givesE CP n k = some u) (hu : u.flat2 = true) : FunOk P pure' k (.prim (primC u)) := by
  unfold givesE at h
  rw [callE_eq] at h
  cases hc : callN CP n (.fn k [] []) [] 0 [] with
  | none => rw [hc] at h; cases h
  | some r =>
    obtain ⟨v, H0⟩ := r
    rw [hc] at h
    have hz : frz H0 12 v = some u := h
    refine ⟨((callN_sim hmix hCP n).fn k [] [] [] 0 [] v H0 hc).1, ?_⟩
    intro vs base H r H' hg
    cases vs with
    | cons a l => cases hg
    | nil =>
      cases hg
      refine ⟨Floor.refl _ _, fun μ Mt w cs hH hv m => ?_⟩
      exact (call_apart (callN_sim hmix hCP n) hH hv (us := []) rfl hc hz (by rw [hu]; simp) m).2
end Go.AM
set_option maxRecDepth 100000
namespace Go.Proofs.YtccallbknpbggaaDoor
open Go.AM
def c_gnomonlaw01_wakes : ACFun := { ntmps := 42, results := [(.tmp 0)], body :=
  (.seq (.region [
    ⟨some 0, (.move (.c (.s (.bool false)))), none⟩] [] [])
  (.seq (.region [
    ⟨some 2, (.buildSl 1 4 [(.s (.int .i64 0)), (.s (.int .i64 0)), (.s (.int .i64 0)), (.s (.int .i64 0))] [(0, (.c (.s (.int .i64 3)))), (1, (.c (.s (.int .i64 1)))), (2, (.c (.s (.int .i64 3)))), (3, (.c (.s (.int .i64 (-1)))))]), none⟩,
    ⟨some 3, (.call (.c (.fn 11 [] [])) [(.t 2)]), none⟩,
    ⟨some 1, (.move (.t 3)), none⟩] [] [])
  (.seq (.region [
    ⟨some 4, (.move (.t 1)), none⟩,
    ⟨some 5, (.call (.c (.fn 20 [] [])) [(.t 4)]), none⟩,
    ⟨some 6, (.bin .eql (.t 5) (.c (.s (.int .i64 2)))), none⟩,
    ⟨some 7, (.move (.t 6)), none⟩,
    ⟨some 8, (.move (.t 1)), some (7, true)⟩,
    ⟨some 9, (.call (.c (.fn 16 [] [])) [(.t 8)]), some (7, true)⟩,
    ⟨some 10, (.buildSl 1 2 [(.s (.int .i64 0)), (.s (.int .i64 0))] [(0, (.c (.s (.int .i64 1)))), (1, (.c (.s (.int .i64 3))))]), some (7, true)⟩,
    ⟨some 11, (.call (.c (.fn 15 [] [])) [(.t 9), (.t 10)]), some (7, true)⟩,
    ⟨some 12, (.pick (.t 7) (.t 11) (.c (.s (.bool false)))), none⟩,
    ⟨some 13, (.move (.t 12)), none⟩,
    ⟨some 14, (.move (.t 1)), some (13, true)⟩,
    ⟨some 15, (.call (.c (.fn 19 [] [])) [(.t 14), (.c (.s (.int .i64 3)))]), some (13, true)⟩,
    ⟨some 16, (.pick (.t 13) (.t 15) (.c (.s (.bool false)))), none⟩,
    ⟨some 17, (.move (.t 16)), none⟩,
    ⟨some 18, (.move (.t 1)), some (17, true)⟩,
    ⟨some 19, (.call (.c (.fn 19 [] [])) [(.t 18), (.c (.s (.int .i64 (-1))))]), some (17, true)⟩,
    ⟨some 20, (.un .not (.t 19)), some (17, true)⟩,
    ⟨some 21, (.pick (.t 17) (.t 20) (.c (.s (.bool false)))), none⟩,
    ⟨some 22, (.move (.t 21)), none⟩,
    ⟨some 23, (.move (.t 1)), some (22, true)⟩,
    ⟨some 24, (.call (.c (.fn 12 [] [])) [(.t 23), (.c (.s (.int .i64 2)))]), some (22, true)⟩,
    ⟨some 25, (.pick (.t 22) (.t 24) (.c (.s (.bool false)))), none⟩,
    ⟨some 26, (.move (.t 25)), none⟩,
    ⟨some 27, (.move (.t 1)), some (26, true)⟩,
    ⟨some 28, (.call (.c (.fn 12 [] [])) [(.t 27), (.c (.s (.int .i64 2)))]), some (26, true)⟩,
    ⟨some 29, (.un .not (.t 28)), some (26, true)⟩,
    ⟨some 30, (.pick (.t 26) (.t 29) (.c (.s (.bool false)))), none⟩,
    ⟨some 31, (.move (.t 30)), none⟩,
    ⟨some 32, (.move (.t 1)), some (31, true)⟩,
    ⟨some 33, (.buildSl 1 1 [(.s (.int .i64 0))] [(0, (.c (.s (.int .i64 1099511627776))))]), some (31, true)⟩,
    ⟨some 34, (.call (.c (.fn 11 [] [])) [(.t 33)]), some (31, true)⟩,
    ⟨some 35, (.call (.c (.fn 24 [] [])) [(.t 32), (.t 34)]), some (31, true)⟩,
    ⟨some 36, (.pick (.t 31) (.t 35) (.c (.s (.bool false)))), none⟩,
    ⟨some 37, (.move (.t 36)), none⟩,
    ⟨some 38, (.move (.t 1)), some (37, true)⟩,
    ⟨some 39, (.call (.c (.fn 20 [] [])) [(.t 38)]), some (37, true)⟩,
    ⟨some 40, (.bin .eql (.t 39) (.c (.s (.int .i64 4)))), some (37, true)⟩,
    ⟨some 41, (.pick (.t 37) (.t 40) (.c (.s (.bool false)))), none⟩,
    ⟨some 0, (.move (.t 41)), none⟩] [] [])
  .ret))) }
def c_bits_Of_l0 : ACode :=
  (.seq (.region [
    ⟨some 12, (.bin .lss (.t 11) (.t 10)), none⟩] [] [])
  (.seq (.cond (.t 12)
    .skip
    (.exit 0))
  (.seq (.block 1
    (.seq (.region [
      ⟨some 13, (.indexAddr 1 (.t 9) (.t 11)), none⟩,
      ⟨some 14, (.load false 1 (.t 13)), none⟩,
      ⟨some 5, (.move (.t 14)), none⟩] [] [])
    (.region [
      ⟨some 15, (.move (.t 3)), none⟩,
      ⟨some 16, (.move (.t 5)), none⟩,
      ⟨some 17, (.call (.c (.fn 12 [] [])) [(.t 15), (.t 16)]), none⟩] [] [])))
  (.region [
    ⟨some 18, (.bin .add (.t 11) (.c (.s (.int .i64 1)))), none⟩,
    ⟨some 11, (.move (.t 18)), none⟩] [] []))))
def c_bits_Of_k0 : List Nat := [12, 13, 14, 5, 15, 16, 17, 18]
def c_bits_Of : ACFun := { ntmps := 20, results := [(.tmp 2)], body :=
  (.seq (.region [
    ⟨some 2, (.move (.c (.s (.pointer none)))), none⟩] [] [])
  (.seq (.region [
    ⟨some 6, .mapNew, none⟩,
    ⟨some 7, (.build [(.s (.map none)), (.s (.int .i64 0))] [(0, 1), (1, 1)] [(0, (.t 6))]), none⟩,
    ⟨some 8, (.box (.t 7)), none⟩,
    ⟨some 3, (.move (.t 8)), none⟩] [] [])
  (.seq (.seq (.region [
    ⟨some 9, (.move (.t 0)), none⟩,
    ⟨some 10, (.lenS .s (.t 9)), none⟩,
    ⟨some 11, (.move (.c (.s (.int .i64 0)))), none⟩] [] [])
  (.block 0
    (.loop c_bits_Of_k0 c_bits_Of_l0)))
  (.seq (.region [
    ⟨some 19, (.move (.t 3)), none⟩,
    ⟨some 2, (.move (.t 19)), none⟩] [] [])
  .ret)))) }
def c_bits_Set_Add : ACFun := { ntmps := 28, results := [(.tmp 4)], body :=
  (.seq (.region [
    ⟨some 4, (.move (.c (.s (.bool false)))), none⟩] [] [])
  (.seq (.seq (.region [
    ⟨some 5, (.move (.t 0)), none⟩,
    ⟨some 6, (.eqNil .p false (.t 5)), none⟩,
    ⟨some 7, (.move (.t 6)), none⟩,
    ⟨some 8, (.move (.t 1)), some (7, false)⟩,
    ⟨some 9, (.bin .lss (.t 8) (.c (.s (.int .i64 0)))), some (7, false)⟩,
    ⟨some 10, (.pick (.t 7) (.c (.s (.bool true))) (.t 9)), none⟩,
    ⟨some 11, (.move (.t 10)), none⟩,
    ⟨some 12, (.move (.t 0)), some (11, false)⟩,
    ⟨some 13, (.move (.t 1)), some (11, false)⟩,
    ⟨some 14, (.call (.c (.fn 19 [] [])) [(.t 12), (.t 13)]), some (11, false)⟩,
    ⟨some 15, (.pick (.t 11) (.c (.s (.bool true))) (.t 14)), none⟩] [] [])
  (.cond (.t 15)
    (.seq (.region [
      ⟨some 4, (.move (.c (.s (.bool false)))), none⟩] [] [])
    .ret)
    .skip))
  (.seq (.region [
    ⟨some 16, (.move (.t 0)), none⟩,
    ⟨some 17, (.move (.t 1)), none⟩,
    ⟨some 18, (.bin .shr (.t 17) (.c (.s (.int .u64 6)))), none⟩,
    ⟨some 19, (.move (.t 0)), none⟩,
    ⟨some 20, (.move (.t 1)), none⟩,
    ⟨some 21, (.bin .shr (.t 20) (.c (.s (.int .u64 6)))), none⟩,
    ⟨some 22, (.call (.c (.fn 32 [] [])) [(.t 19), (.t 21)]), none⟩,
    ⟨some 23, (.move (.t 1)), none⟩,
    ⟨some 24, (.bin .and (.t 23) (.c (.s (.int .i64 63)))), none⟩,
    ⟨some 25, (.bin .shl (.c (.s (.int .u64 1))) (.t 24)), none⟩,
    ⟨some 26, (.bin .or (.t 22) (.t 25)), none⟩,
    ⟨some 27, (.call (.c (.fn 31 [] [])) [(.t 16), (.t 18), (.t 26)]), none⟩] [] [])
  (.seq (.region [
    ⟨some 4, (.move (.c (.s (.bool true)))), none⟩] [] [])
  .ret)))) }
def c_gnomonref01_Same_l0 : ACode :=
  (.seq (.seq (.region [
    ⟨some 11, (.move (.t 5)), none⟩,
    ⟨some 12, (.move (.t 0)), none⟩,
    ⟨some 13, (.lenS .s (.t 12)), none⟩,
    ⟨some 14, (.bin .lss (.t 11) (.t 13)), none⟩] [] [])
  (.cond (.t 14)
    .skip
    (.exit 0)))
  (.seq (.block 1
    (.seq (.region [
      ⟨some 17, (.move (.t 0)), none⟩,
      ⟨some 18, (.move (.t 5)), none⟩,
      ⟨some 19, (.indexAddr 1 (.t 17) (.t 18)), none⟩,
      ⟨some 20, (.load false 1 (.t 19)), none⟩,
      ⟨some 21, (.move (.t 1)), none⟩,
      ⟨some 22, (.move (.t 5)), none⟩,
      ⟨some 23, (.indexAddr 1 (.t 21) (.t 22)), none⟩,
      ⟨some 24, (.load false 1 (.t 23)), none⟩,
      ⟨some 25, (.bin .neq (.t 20) (.t 24)), none⟩] [] [])
    (.cond (.t 25)
      (.seq (.region [
        ⟨some 4, (.move (.c (.s (.bool false)))), none⟩] [] [])
      .ret)
      .skip)))
  (.region [
    ⟨some 15, (.move (.t 5)), none⟩,
    ⟨some 16, (.bin .add (.t 15) (.c (.s (.int .i64 1)))), none⟩,
    ⟨some 5, (.move (.t 16)), none⟩] [] [])))
def c_gnomonref01_Same_k0 : List Nat := [11, 12, 13, 14, 17, 18, 19, 20, 21, 22, 23, 24, 25, 15, 16]
def c_gnomonref01_Same : ACFun := { ntmps := 26, results := [(.tmp 4)], body :=
  (.seq (.region [
    ⟨some 4, (.move (.c (.s (.bool false)))), none⟩] [] [])
  (.seq (.seq (.region [
    ⟨some 6, (.move (.t 0)), none⟩,
    ⟨some 7, (.lenS .s (.t 6)), none⟩,
    ⟨some 8, (.move (.t 1)), none⟩,
    ⟨some 9, (.lenS .s (.t 8)), none⟩,
    ⟨some 10, (.bin .neq (.t 7) (.t 9)), none⟩] [] [])
  (.cond (.t 10)
    (.seq (.region [
      ⟨some 4, (.move (.c (.s (.bool false)))), none⟩] [] [])
    .ret)
    .skip))
  (.seq (.seq (.region [
    ⟨some 5, (.move (.c (.s (.int .i64 0)))), none⟩] [] [])
  (.block 0
    (.loop c_gnomonref01_Same_k0 c_gnomonref01_Same_l0)))
  (.seq (.region [
    ⟨some 4, (.move (.c (.s (.bool true)))), none⟩] [] [])
  .ret)))) }
def c_bits_Set_List_l0 : ACode :=
  (.seq (.seq (.region [
    ⟨some 10, (.move (.t 5)), none⟩,
    ⟨some 11, (.bin .neq (.t 10) (.c (.s (.int .u64 0)))), none⟩] [] [])
  (.cond (.t 11)
    .skip
    (.exit 2)))
  (.seq (.block 3
    (.region [
      ⟨some 16, (.load false 1 (.t 3)), none⟩,
      ⟨some 17, (.move (.t 4)), none⟩,
      ⟨some 18, (.bin .shl (.t 17) (.c (.s (.int .u64 6)))), none⟩,
      ⟨some 19, (.move (.t 5)), none⟩,
      ⟨some 20, (.callR (.c (.fn 34 [] [])) [(.t 19)]), none⟩,
      ⟨some 21, (.bin .or (.t 18) (.t 20)), none⟩,
      ⟨some 22, (.buildSl 1 1 [(.s (.int .i64 0))] [(0, (.t 21))]), none⟩,
      ⟨some 23, (.append 1 8 (.t 16) (.t 22)), none⟩,
      ⟨none, (.store 1 (.t 3) (.t 23)), none⟩] [] []))
  (.region [
    ⟨some 12, (.move (.t 5)), none⟩,
    ⟨some 13, (.move (.t 5)), none⟩,
    ⟨some 14, (.bin .sub (.t 13) (.c (.s (.int .u64 1)))), none⟩,
    ⟨some 15, (.bin .and (.t 12) (.t 14)), none⟩,
    ⟨some 5, (.move (.t 15)), none⟩] [] [])))
def c_bits_Set_List_k0 : List Nat := [10, 11, 16, 17, 18, 19, 20, 21, 22, 23, 12, 13, 14, 15]
def c_bits_Set_List_a1 : ACode :=
  (.seq (.region [
    ⟨some 4, (.move (.t 8)), none⟩] [] [])
  (.region [
    ⟨some 5, (.move (.t 9)), none⟩] [] []))
def c_bits_Set_List_b1 : ACode :=
  (.block 1
    (.block 2
      (.loop c_bits_Set_List_k0 c_bits_Set_List_l0)))
def c_bits_Set_List : ACFun := { ntmps := 25, results := [(.tmp 2)], body :=
  (.seq (.region [
    ⟨some 2, (.move (.c (.s (.slice none 0 0)))), none⟩] [] [])
  (.seq (.region [
    ⟨some 3, (.alloc [(.s (.slice none 0 0))]), none⟩] [] [])
  (.seq (.seq (.region [
    ⟨some 6, (.move (.t 0)), none⟩,
    ⟨some 7, (.call (.c (.fn 33 [] [])) [(.t 6)]), none⟩] [] [])
  (.block 0
    (.rangeFunc (.t 7) [8, 9] c_bits_Set_List_a1 c_bits_Set_List_b1)))
  (.seq (.region [
    ⟨some 24, (.load false 1 (.t 3)), none⟩,
    ⟨some 2, (.move (.t 24)), none⟩] [] [])
  .ret)))) }
def c_bits_Set_Has : ACFun := { ntmps := 18, results := [(.tmp 4)], body :=
  (.seq (.region [
    ⟨some 4, (.move (.c (.s (.bool false)))), none⟩] [] [])
  (.seq (.region [
    ⟨some 5, (.move (.t 1)), none⟩,
    ⟨some 6, (.bin .geq (.t 5) (.c (.s (.int .i64 0)))), none⟩,
    ⟨some 7, (.move (.t 6)), none⟩,
    ⟨some 8, (.move (.t 0)), some (7, true)⟩,
    ⟨some 9, (.move (.t 1)), some (7, true)⟩,
    ⟨some 10, (.bin .shr (.t 9) (.c (.s (.int .u64 6)))), some (7, true)⟩,
    ⟨some 11, (.call (.c (.fn 32 [] [])) [(.t 8), (.t 10)]), some (7, true)⟩,
    ⟨some 12, (.move (.t 1)), some (7, true)⟩,
    ⟨some 13, (.bin .and (.t 12) (.c (.s (.int .i64 63)))), some (7, true)⟩,
    ⟨some 14, (.bin .shr (.t 11) (.t 13)), some (7, true)⟩,
    ⟨some 15, (.bin .and (.t 14) (.c (.s (.int .u64 1)))), some (7, true)⟩,
    ⟨some 16, (.bin .eql (.t 15) (.c (.s (.int .u64 1)))), some (7, true)⟩,
    ⟨some 17, (.pick (.t 7) (.t 16) (.c (.s (.bool false)))), none⟩,
    ⟨some 4, (.move (.t 17)), none⟩] [] [])
  .ret)) }
def c_bits_Set_Len : ACFun := { ntmps := 9, results := [(.tmp 2)], body :=
  (.seq (.region [
    ⟨some 2, (.move (.c (.s (.int .i64 0)))), none⟩] [] [])
  (.seq (.seq (.region [
    ⟨some 3, (.move (.t 0)), none⟩,
    ⟨some 4, (.eqNil .p false (.t 3)), none⟩] [] [])
  (.cond (.t 4)
    (.seq (.region [
      ⟨some 2, (.move (.c (.s (.int .i64 0)))), none⟩] [] [])
    .ret)
    .skip))
  (.seq (.region [
    ⟨some 5, (.move (.t 0)), none⟩,
    ⟨some 6, (.nilCheck (.t 5)), none⟩,
    ⟨some 7, (.fieldAddr 1 (.t 6)), none⟩,
    ⟨some 8, (.load false 1 (.t 7)), none⟩,
    ⟨some 2, (.move (.t 8)), none⟩] [] [])
  .ret))) }
def c_bits_Set_Union_a0 : ACode :=
  (.seq (.region [
    ⟨some 6, (.move (.t 16)), none⟩] [] [])
  (.region [
    ⟨some 7, (.move (.t 17)), none⟩] [] []))
def c_bits_Set_Union_b0 : ACode :=
  (.block 1
    (.region [
      ⟨some 18, (.load false 1 (.t 2)), none⟩,
      ⟨some 19, (.move (.t 6)), none⟩,
      ⟨some 20, (.load false 1 (.t 2)), none⟩,
      ⟨some 21, (.move (.t 6)), none⟩,
      ⟨some 22, (.callR (.c (.fn 32 [] [])) [(.t 20), (.t 21)]), none⟩,
      ⟨some 23, (.move (.t 7)), none⟩,
      ⟨some 24, (.bin .or (.t 22) (.t 23)), none⟩,
      ⟨some 25, (.call (.c (.fn 31 [] [])) [(.t 18), (.t 19), (.t 24)]), none⟩] [] []))
def c_bits_Set_Union : ACFun := { ntmps := 32, results := [(.tmp 4)], body :=
  (.seq (.region [
    ⟨some 2, (.box (.t 0)), none⟩,
    ⟨some 4, (.move (.c (.s (.bool false)))), none⟩] [] [])
  (.seq (.seq (.region [
    ⟨some 8, (.load false 1 (.t 2)), none⟩,
    ⟨some 9, (.eqNil .p false (.t 8)), none⟩] [] [])
  (.cond (.t 9)
    (.seq (.region [
      ⟨some 4, (.move (.c (.s (.bool false)))), none⟩] [] [])
    .ret)
    .skip))
  (.seq (.region [
    ⟨some 10, (.load false 1 (.t 2)), none⟩,
    ⟨some 11, (.nilCheck (.t 10)), none⟩,
    ⟨some 12, (.fieldAddr 1 (.t 11)), none⟩,
    ⟨some 13, (.load false 1 (.t 12)), none⟩,
    ⟨some 5, (.move (.t 13)), none⟩] [] [])
  (.seq (.seq (.region [
    ⟨some 14, (.move (.t 1)), none⟩,
    ⟨some 15, (.call (.c (.fn 33 [] [])) [(.t 14)]), none⟩] [] [])
  (.block 0
    (.rangeFunc (.t 15) [16, 17] c_bits_Set_Union_a0 c_bits_Set_Union_b0)))
  (.seq (.region [
    ⟨some 26, (.load false 1 (.t 2)), none⟩,
    ⟨some 27, (.nilCheck (.t 26)), none⟩,
    ⟨some 28, (.fieldAddr 1 (.t 27)), none⟩,
    ⟨some 29, (.load false 1 (.t 28)), none⟩,
    ⟨some 30, (.move (.t 5)), none⟩,
    ⟨some 31, (.bin .gtr (.t 29) (.t 30)), none⟩,
    ⟨some 4, (.move (.t 31)), none⟩] [] [])
  .ret))))) }
def c_bits_Set_put : ACFun := { ntmps := 36, results := [], body :=
  (.seq (.region [
    ⟨some 6, (.move (.t 0)), none⟩,
    ⟨some 7, (.nilCheck (.t 6)), none⟩,
    ⟨some 8, (.fieldAddr 1 (.t 7)), none⟩,
    ⟨some 9, (.load false 1 (.t 8)), none⟩,
    ⟨some 10, (.move (.t 2)), none⟩,
    ⟨some 11, (.callR (.c (.fn 40 [] [])) [(.t 10)]), none⟩,
    ⟨some 12, (.move (.t 0)), none⟩,
    ⟨some 13, (.nilCheck (.t 12)), none⟩,
    ⟨some 14, (.fieldAddr 0 (.t 13)), none⟩,
    ⟨some 15, (.load false 1 (.t 14)), none⟩,
    ⟨some 16, (.move (.t 1)), none⟩,
    ⟨some 17, (.mapGet (.int .i64) (.s (.int .u64 0)) (.t 15) (.t 16) false), none⟩,
    ⟨some 18, (.callR (.c (.fn 40 [] [])) [(.t 17)]), none⟩,
    ⟨some 19, (.bin .sub (.t 11) (.t 18)), none⟩,
    ⟨some 20, (.bin .add (.t 9) (.t 19)), none⟩,
    ⟨some 21, (.nilCheck (.t 6)), none⟩,
    ⟨some 22, (.fieldAddr 1 (.t 21)), none⟩,
    ⟨none, (.store 1 (.t 22) (.t 20)), none⟩] [] [])
  (.seq (.region [
    ⟨some 23, (.move (.t 2)), none⟩,
    ⟨some 24, (.bin .eql (.t 23) (.c (.s (.int .u64 0)))), none⟩] [] [])
  (.cond (.t 24)
    (.region [
      ⟨some 25, (.move (.t 0)), none⟩,
      ⟨some 26, (.nilCheck (.t 25)), none⟩,
      ⟨some 27, (.fieldAddr 0 (.t 26)), none⟩,
      ⟨some 28, (.load false 1 (.t 27)), none⟩,
      ⟨some 29, (.move (.t 1)), none⟩,
      ⟨none, (.delete (.int .i64) (.t 28) (.t 29)), none⟩] [] [])
    (.region [
      ⟨some 30, (.move (.t 0)), none⟩,
      ⟨some 31, (.nilCheck (.t 30)), none⟩,
      ⟨some 32, (.fieldAddr 0 (.t 31)), none⟩,
      ⟨some 33, (.load false 1 (.t 32)), none⟩,
      ⟨some 34, (.move (.t 1)), none⟩,
      ⟨some 35, (.move (.t 2)), none⟩,
      ⟨none, (.mapUpd (.int .i64) (.t 33) (.t 34) (.t 35)), none⟩] [] [])))) }
def c_bits_Set_at : ACFun := { ntmps := 13, results := [(.tmp 4)], body :=
  (.seq (.region [
    ⟨some 4, (.move (.c (.s (.int .u64 0)))), none⟩] [] [])
  (.seq (.seq (.region [
    ⟨some 5, (.move (.t 0)), none⟩,
    ⟨some 6, (.eqNil .p false (.t 5)), none⟩] [] [])
  (.cond (.t 6)
    (.seq (.region [
      ⟨some 4, (.move (.c (.s (.int .u64 0)))), none⟩] [] [])
    .ret)
    .skip))
  (.seq (.region [
    ⟨some 7, (.move (.t 0)), none⟩,
    ⟨some 8, (.nilCheck (.t 7)), none⟩,
    ⟨some 9, (.fieldAddr 0 (.t 8)), none⟩,
    ⟨some 10, (.load false 1 (.t 9)), none⟩,
    ⟨some 11, (.move (.t 1)), none⟩,
    ⟨some 12, (.mapGet (.int .i64) (.s (.int .u64 0)) (.t 10) (.t 11) false), none⟩,
    ⟨some 4, (.move (.t 12)), none⟩] [] [])
  .ret))) }
def c_bits_Set_all : ACFun := { ntmps := 4, results := [(.tmp 2)], body :=
  (.seq (.region [
    ⟨some 1, (.box (.t 0)), none⟩,
    ⟨some 2, (.move (.c (.s .nilFunc))), none⟩] [] [])
  (.seq (.region [
    ⟨some 3, (.mkFn 41 [] [(.t 1)]), none⟩,
    ⟨some 2, (.move (.t 3)), none⟩] [] [])
  .ret)) }
def c_math_bits_OnesCount64 : ACFun := { ntmps := 35, results := [(.tmp 2)], body :=
  (.seq (.region [
    ⟨some 2, (.move (.c (.s (.int .i64 0)))), none⟩] [] [])
  (.seq (.region [
    ⟨some 3, (.move (.t 0)), none⟩,
    ⟨some 4, (.bin .shr (.t 3) (.c (.s (.int .u64 1)))), none⟩,
    ⟨some 5, (.bin .and (.t 4) (.c (.s (.int .u64 6148914691236517205)))), none⟩,
    ⟨some 6, (.move (.t 0)), none⟩,
    ⟨some 7, (.bin .and (.t 6) (.c (.s (.int .u64 6148914691236517205)))), none⟩,
    ⟨some 8, (.bin .add (.t 5) (.t 7)), none⟩,
    ⟨some 0, (.move (.t 8)), none⟩] [] [])
  (.seq (.region [
    ⟨some 9, (.move (.t 0)), none⟩,
    ⟨some 10, (.bin .shr (.t 9) (.c (.s (.int .u64 2)))), none⟩,
    ⟨some 11, (.bin .and (.t 10) (.c (.s (.int .u64 3689348814741910323)))), none⟩,
    ⟨some 12, (.move (.t 0)), none⟩,
    ⟨some 13, (.bin .and (.t 12) (.c (.s (.int .u64 3689348814741910323)))), none⟩,
    ⟨some 14, (.bin .add (.t 11) (.t 13)), none⟩,
    ⟨some 0, (.move (.t 14)), none⟩] [] [])
  (.seq (.region [
    ⟨some 15, (.move (.t 0)), none⟩,
    ⟨some 16, (.bin .shr (.t 15) (.c (.s (.int .u64 4)))), none⟩,
    ⟨some 17, (.move (.t 0)), none⟩,
    ⟨some 18, (.bin .add (.t 16) (.t 17)), none⟩,
    ⟨some 19, (.bin .and (.t 18) (.c (.s (.int .u64 1085102592571150095)))), none⟩,
    ⟨some 0, (.move (.t 19)), none⟩] [] [])
  (.seq (.region [
    ⟨some 20, (.move (.t 0)), none⟩,
    ⟨some 21, (.move (.t 0)), none⟩,
    ⟨some 22, (.bin .shr (.t 21) (.c (.s (.int .u64 8)))), none⟩,
    ⟨some 23, (.bin .add (.t 20) (.t 22)), none⟩,
    ⟨some 0, (.move (.t 23)), none⟩] [] [])
  (.seq (.region [
    ⟨some 24, (.move (.t 0)), none⟩,
    ⟨some 25, (.move (.t 0)), none⟩,
    ⟨some 26, (.bin .shr (.t 25) (.c (.s (.int .u64 16)))), none⟩,
    ⟨some 27, (.bin .add (.t 24) (.t 26)), none⟩,
    ⟨some 0, (.move (.t 27)), none⟩] [] [])
  (.seq (.region [
    ⟨some 28, (.move (.t 0)), none⟩,
    ⟨some 29, (.move (.t 0)), none⟩,
    ⟨some 30, (.bin .shr (.t 29) (.c (.s (.int .u64 32)))), none⟩,
    ⟨some 31, (.bin .add (.t 28) (.t 30)), none⟩,
    ⟨some 0, (.move (.t 31)), none⟩] [] [])
  (.seq (.region [
    ⟨some 32, (.move (.t 0)), none⟩,
    ⟨some 33, (.conv .i64 (.t 32)), none⟩,
    ⟨some 34, (.bin .and (.t 33) (.c (.s (.int .i64 127)))), none⟩,
    ⟨some 2, (.move (.t 34)), none⟩] [] [])
  .ret)))))))) }
def c_bits_Set_all_1_l0 : ACode :=
  (.seq (.region [
    ⟨some 15, (.bin .lss (.t 14) (.t 13)), none⟩] [] [])
  (.seq (.cond (.t 15)
    .skip
    (.exit 0))
  (.seq (.block 1
    (.seq (.region [
      ⟨some 16, (.indexAddr 1 (.t 12) (.t 14)), none⟩,
      ⟨some 17, (.load false 1 (.t 16)), none⟩,
      ⟨some 4, (.move (.t 17)), none⟩] [] [])
    (.seq (.region [
      ⟨some 18, (.move (.t 0)), none⟩,
      ⟨some 19, (.move (.t 4)), none⟩,
      ⟨some 20, (.load false 1 (.t 1)), none⟩,
      ⟨some 21, (.nilCheck (.t 20)), none⟩,
      ⟨some 22, (.fieldAddr 0 (.t 21)), none⟩,
      ⟨some 23, (.load false 1 (.t 22)), none⟩,
      ⟨some 24, (.move (.t 4)), none⟩,
      ⟨some 25, (.mapGet (.int .i64) (.s (.int .u64 0)) (.t 23) (.t 24) false), none⟩,
      ⟨some 26, (.call (.t 18) [(.t 19), (.t 25)]), none⟩,
      ⟨some 27, (.un .not (.t 26)), none⟩] [] [])
    (.cond (.t 27)
      .ret
      .skip))))
  (.region [
    ⟨some 28, (.bin .add (.t 14) (.c (.s (.int .i64 1)))), none⟩,
    ⟨some 14, (.move (.t 28)), none⟩] [] []))))
def c_bits_Set_all_1_k0 : List Nat := [15, 16, 17, 4, 18, 19, 20, 21, 22, 23, 24, 25, 26, 27, 28]
def c_bits_Set_all_1 : ACFun := { ntmps := 29, results := [], body :=
  (.seq (.seq (.region [
    ⟨some 5, (.load false 1 (.t 1)), none⟩,
    ⟨some 6, (.eqNil .p false (.t 5)), none⟩] [] [])
  (.cond (.t 6)
    .ret
    .skip))
  (.seq (.region [
    ⟨some 7, (.load false 1 (.t 1)), none⟩,
    ⟨some 8, (.nilCheck (.t 7)), none⟩,
    ⟨some 9, (.fieldAddr 0 (.t 8)), none⟩,
    ⟨some 10, (.load false 1 (.t 9)), none⟩,
    ⟨some 11, (.call (.c (.fn 43 [] [])) [(.t 10)]), none⟩,
    ⟨some 12, (.call (.c (.fn 42 [] [])) [(.t 11)]), none⟩,
    ⟨some 13, (.lenS .s (.t 12)), none⟩,
    ⟨some 14, (.move (.c (.s (.int .i64 0)))), none⟩] [] [])
  (.block 0
    (.loop c_bits_Set_all_1_k0 c_bits_Set_all_1_l0)))) }
def c_maps_Keys_map_int_uint64_int_uint64 : ACFun := { ntmps := 4, results := [(.tmp 2)], body :=
  (.seq (.region [
    ⟨some 1, (.box (.t 0)), none⟩,
    ⟨some 2, (.move (.c (.s .nilFunc))), none⟩] [] [])
  (.seq (.region [
    ⟨some 3, (.mkFn 47 [] [(.t 1)]), none⟩,
    ⟨some 2, (.move (.t 3)), none⟩] [] [])
  .ret)) }
def CQ : Nat → Option CFun
  | 10 => some (.code c_gnomonlaw01_wakes)
  | 11 => some (.code c_bits_Of)
  | 12 => some (.code c_bits_Set_Add)
  | 15 => some (.code c_gnomonref01_Same)
  | 16 => some (.code c_bits_Set_List)
  | 19 => some (.code c_bits_Set_Has)
  | 20 => some (.code c_bits_Set_Len)
  | 24 => some (.code c_bits_Set_Union)
  | 31 => some (.code c_bits_Set_put)
  | 32 => some (.code c_bits_Set_at)
  | 33 => some (.code c_bits_Set_all)
  | 40 => some (.code c_math_bits_OnesCount64)
  | 41 => some (.code c_bits_Set_all_1)
  | 43 => some (.code c_maps_Keys_map_int_uint64_int_uint64)
  | _ => none
theorem CQ_10 : compK Tryd.prog PX0 10 = some (false, c_gnomonlaw01_wakes.ntmps, c_gnomonlaw01_wakes.results, c_gnomonlaw01_wakes.body.bare) := by kernel_rfl
theorem CQ_11 : compK Tryd.prog PX0 11 = some (false, c_bits_Of.ntmps, c_bits_Of.results, c_bits_Of.body.bare) := by kernel_rfl
theorem CQ_12 : compK Tryd.prog PX0 12 = some (false, c_bits_Set_Add.ntmps, c_bits_Set_Add.results, c_bits_Set_Add.body.bare) := by kernel_rfl
theorem CQ_15 : compK Tryd.prog PX0 15 = some (false, c_gnomonref01_Same.ntmps, c_gnomonref01_Same.results, c_gnomonref01_Same.body.bare) := by kernel_rfl
theorem CQ_16 : compK Tryd.prog PX0 16 = some (false, c_bits_Set_List.ntmps, c_bits_Set_List.results, c_bits_Set_List.body.bare) := by kernel_rfl
theorem CQ_19 : compK Tryd.prog PX0 19 = some (false, c_bits_Set_Has.ntmps, c_bits_Set_Has.results, c_bits_Set_Has.body.bare) := by kernel_rfl
theorem CQ_20 : compK Tryd.prog PX0 20 = some (false, c_bits_Set_Len.ntmps, c_bits_Set_Len.results, c_bits_Set_Len.body.bare) := by kernel_rfl
theorem CQ_24 : compK Tryd.prog PX0 24 = some (false, c_bits_Set_Union.ntmps, c_bits_Set_Union.results, c_bits_Set_Union.body.bare) := by kernel_rfl
theorem CQ_31 : compK Tryd.prog PX0 31 = some (false, c_bits_Set_put.ntmps, c_bits_Set_put.results, c_bits_Set_put.body.bare) := by kernel_rfl
theorem CQ_32 : compK Tryd.prog PX0 32 = some (false, c_bits_Set_at.ntmps, c_bits_Set_at.results, c_bits_Set_at.body.bare) := by kernel_rfl
theorem CQ_33 : compK Tryd.prog PX0 33 = some (false, c_bits_Set_all.ntmps, c_bits_Set_all.results, c_bits_Set_all.body.bare) := by kernel_rfl
theorem CQ_40 : compK Tryd.prog PX0 40 = some (false, c_math_bits_OnesCount64.ntmps, c_math_bits_OnesCount64.results, c_math_bits_OnesCount64.body.bare) := by kernel_rfl
theorem CQ_41 : compK Tryd.prog PX0 41 = some (false, c_bits_Set_all_1.ntmps, c_bits_Set_all_1.results, c_bits_Set_all_1.body.bare) := by kernel_rfl
theorem CQ_43 : compK Tryd.prog PX0 43 = some (false, c_maps_Keys_map_int_uint64_int_uint64.ntmps, c_maps_Keys_map_int_uint64_int_uint64.results, c_maps_Keys_map_int_uint64_int_uint64.body.bare) := by kernel_rfl
theorem CQ_ok (fx : Nat → Option (Array Value × TypeId × Nat × Nat)) : ∀ k c, CQ k = some c → FunOk Tryd.prog (PXf fx) k c := by
  intro k c h
  unfold CQ at h
  split at h
  · cases h; exact funOk_f fx CQ_10
  · cases h; exact funOk_f fx CQ_11
  · cases h; exact funOk_f fx CQ_12
  · cases h; exact funOk_f fx CQ_15
  · cases h; exact funOk_f fx CQ_16
  · cases h; exact funOk_f fx CQ_19
  · cases h; exact funOk_f fx CQ_20
  · cases h; exact funOk_f fx CQ_24
  · cases h; exact funOk_f fx CQ_31
  · cases h; exact funOk_f fx CQ_32
  · cases h; exact funOk_f fx CQ_33
  · cases h; exact funOk_f fx CQ_40
  · cases h; exact funOk_f fx CQ_41
  · cases h; exact funOk_f fx CQ_43
  · cases h
def CQp (k : Nat) : Option CFun := if k = 42 then some (.prim (sortedG 47)) else if k = 34 then some (.prim tzG) else CQ k
theorem checks_true : givesE CQp 300 10 = some (bl true) := by kernel_rfl
end Go.Proofs.YtccallbknpbggaaDoor
namespace Go.AM
open Go.RowKit
theorem tab_laid {P : Program} {W : World} {name : String} {g : Nat} {t e : TypeId} {tab : List Nat} (hg : P.globalNamed name = some g) (ht : (P.globals[g]?).map (·.type) = some t) (hu : P.underlying t = some (.array tab.length e)) (he : P.underlying e = some (.int .u8)) (hc : P.cellsOf e = 1) (h0 : 0 < tab.length)
    (h : laidMet P [(name, .agg (tab.map fun n => .lit (.int .u8 (n : Nat))))] W) : ∃ o : Array Value × TypeId × Nat × Nat, W.heap[g]? = some (.cells o.1 o.2.1 o.2.2) ∧ ∀ j, j < tab.length → o.1[j]? = some (.int .u8 ((tab.getD j 0 : Nat) : Int)) := by
  obtain ⟨ps, ⟨g0, t0, cs0, f0, p0, q0, hg0, ht0, hv0, hd0, _, _⟩, _, _⟩ := h
  obtain rfl := Option.some.inj (hg.symm.trans hg0)
  obtain rfl := Option.some.inj (ht.symm.trans ht0)
  have hcell := fun i => World.var?_cell hg hv0 i
  obtain ⟨xs, m1, rfl, hx1, hlen, hn3, hel⟩ := DataW.trod_array hu hd0
  simp only [Prod.mk.injEq, DataW.agg.injEq] at hx1
  rw [hc] at hel
  have key : ∀ j, j < tab.length → cs0[j]? = some (.int .u8 ((tab.getD j 0 : Nat) : Int)) := by
    intro j hj
    have h1 := hel j hj
    have hxj : xs[j]? = some xs[j] := List.getElem?_eq_getElem (by omega)
    rw [hxj] at h1
    obtain ⟨k, e1, e2, _⟩ := DataW.trod_int he h1
    have e3 : (tab.map fun n => (DataW.lit (.int .u8 (n : Nat)) : DataW Unit))[j]? = (xs.map (·.1))[j]? := by rw [hx1.1]
    rw [List.getElem?_map, List.getElem?_map, hxj, List.getElem?_eq_getElem hj, Option.map_some, Option.map_some, e2] at e3
    have hk : k = (tab[j] : Nat) := by simpa using e3.symm
    have e4 : cs0.toList[j]? = some (.int .u8 k) := by
      have : ((cs0.toList.drop (j * 1)).take 1)[0]? = some (.int .u8 k) := by rw [e1]; rfl
      rw [List.getElem?_take_of_lt (by omega), List.getElem?_drop] at this
      simpa using this
    rw [Array.getElem?_toList] at e4
    rw [e4, hk]
    simp [List.getD, hj]
  have hc0 := hcell 0
  rw [key 0 h0] at hc0
  simp only [World.cell?] at hc0
  cases hh : W.heap[g]? with
  | none => rw [hh] at hc0; cases hc0
  | some ob =>
    cases ob with
    | cells arr ty fr =>
      refine ⟨(arr, ty, fr), rfl, fun j hj => ?_⟩
      have := hcell j
      rw [key j hj] at this
      simp only [World.cell?, hh] at this
      simpa using this
    | _ => rw [hh] at hc0; cases hc0
end Go.AM
namespace Go.AM
open Go.RowKit
inductive Ty where
  | int (k : IntKind) | bool | str
  | sl (e : Ty)
  | st (fs : List Ty)
  deriving Inhabited
mutual
def Ty.width : Ty → Nat
  | .int _ => 1
  | .bool => 1
  | .str => 1
  | .sl _ => 1
  | .st fs => widths fs
def widths : List Ty → Nat
  | [] => 0
  | f :: fs => f.width + widths fs
end
mutual
def tyOk (P : Program) : Nat → Ty → TypeId → Bool
  | 0, _, _ => false
  | n + 1, ty, t => match ty, P.underlying t with
    | .int k, some (.int k') => k == k'
    | .bool, some .bool => true
    | .str, some .string => true
    | .sl e, some (.slice e') => tyOk P n e e' && P.cellsOf e' == e.width && decide (0 < e.width)
    | .st fs, some (.struct gs) => P.cellsOf t == widths fs && tysOk P n 0 fs gs.toList
    | _, _ => false
def tysOk (P : Program) : Nat → Nat → List Ty → List Field → Bool
  | 0, _, _, _ => false
  | n + 1, off, fs, gs => match fs, gs with
    | [], [] => true
    | f :: fs, g :: gs => g.offset == off && P.cellsOf g.type == f.width && tyOk P n f g.type && tysOk P n (off + f.width) fs gs
    | _, _ => false
end
mutual
def IsV : Ty → List V → Prop
  | .int k, cs => ∃ n, cs = [.s (.int k n)] ∧ k.min ≤ n ∧ n ≤ k.max
  | .bool, cs => ∃ b, cs = [.s (.bool b)]
  | .str, cs => ∃ b, cs = [.s (.string b)] ∧ b.size ≤ maxLen
  | .sl e, cs => cs = [nilS] ∨ ∃ es : List (List V), cs = [.psl es e.width] ∧ es.length ≤ maxLen ∧ ∀ x ∈ es, IsV e x
  | .st fs, cs => IsVs fs cs
def IsVs : List Ty → List V → Prop
  | [], cs => cs = []
  | f :: fs, cs => ∃ a b, cs = a ++ b ∧ IsV f a ∧ IsVs fs b
end
mutual
theorem IsV.len : ∀ (t : Ty) {cs : List V}, IsV t cs → cs.length = t.width
  | .int _, cs, h => by obtain ⟨n, rfl, _⟩ := h; rfl
  | .bool, cs, h => by obtain ⟨n, rfl⟩ := h; rfl
  | .str, cs, h => by obtain ⟨n, rfl, _⟩ := h; rfl
  | .sl e, cs, h => by rcases h with rfl | ⟨es, rfl, _⟩ <;> rfl
  | .st fs, cs, h => IsVs.len fs h
theorem IsVs.len : ∀ (fs : List Ty) {cs : List V}, IsVs fs cs → cs.length = widths fs
  | [], cs, h => by cases h; rfl
  | f :: fs, cs, h => by
    obtain ⟨a, b, rfl, h1, h2⟩ := h
    rw [List.length_append, IsV.len f h1, IsVs.len fs h2]; rfl
end
abbrev PRs (w : World) (vs : List V) (cs : List Value) : Prop := vs.length = cs.length ∧ ∀ (i : Nat) (a : V) (b : Value), vs[i]? = some a → cs[i]? = some b → PR (fun _ => False) w a b
theorem PRs.app {w : World} {a b : List V} {c d : List Value} (h : PRs w a c) (k : PRs w b d) : PRs w (a ++ b) (c ++ d) := by
  refine ⟨by simp [h.1, k.1], fun i x y hx hy => ?_⟩
  by_cases hi : i < a.length
  · rw [List.getElem?_append_left hi] at hx
    rw [List.getElem?_append_left (by rw [← h.1]; exact hi)] at hy
    exact h.2 i x y hx hy
  · rw [List.getElem?_append_right (by omega)] at hx
    rw [List.getElem?_append_right (by rw [← h.1]; omega), ← h.1] at hy
    exact k.2 _ x y hx hy
theorem PRs.one {w : World} {a : V} {b : Value} (h : PR (fun _ => False) w a b) : PRs w [a] [b] := ⟨rfl, fun i x y hx hy => by
  cases i with
  | zero => simp at hx hy; rw [← hx, ← hy]; exact h
  | succ i => simp at hx⟩
theorem PRs.vrs {w : World} {vs : List V} {cs : List Value} (h : PRs w vs cs) : VRs (fun _ _ => none) (fun _ => False) w vs cs := ⟨h.1, fun i a b ha hb => (h.2 i a b ha hb).vr⟩
theorem mapM_fwd {α β : Type} {f : α → Option β} {l : List α} {us : List β} (h : l.mapM f = some us) : us.length = l.length ∧ ∀ (i : Nat) (v : α), l[i]? = some v → ∃ u, us[i]? = some u ∧ f v = some u := by
  obtain ⟨h1, h2⟩ := mapM_get2 h
  refine ⟨h1, fun i v hv => ?_⟩
  have hi : i < us.length := by rw [h1]; exact (List.getElem?_eq_some_iff.1 hv).1
  exact ⟨us[i], List.getElem?_eq_getElem hi, h2 i v _ hv (List.getElem?_eq_getElem hi)⟩
section
variable {H : Type} {enc : TypeId × Value → H} {P : Program} {w : World} {base : Nat} {sp : Nat → Bool} {held : Bool}
theorem add_block (a : Addr) (j : Nat) : (a.add j).block = a.block := by unfold Addr.add; split <;> rfl
theorem add_off {a : Addr} (h : a.spot = none) (j : Nat) : (a.add j).off = a.off + j := by
  unfold Addr.add
  split
  · rename_i e; subst e; rfl
  · rfl
theorem cells_row {a : Addr} {n : Nat} {cs : List Value} (h : w.cells? base a n = some cs) (hn : 0 < n) : ∃ arr e fr, w.heap[a.block]? = some (.cells arr e fr) ∧ a.spot = none ∧ cs.length = n ∧ a.off + n ≤ arr.size ∧ ∀ j, j < n → cs[j]? = arr[a.off + j]? := by
  unfold World.cells? at h
  split at h
  · obtain ⟨h1, h2⟩ := mapM_fwd h
    simp only [List.length_range] at h1
    have key : ∀ j, j < n → ∃ u, cs[j]? = some u ∧ w.cell? (a.add j) = some u := fun j hj => h2 j j (by simp [hj])
    obtain ⟨u0, _, hc0⟩ := key 0 hn
    unfold World.cell? at hc0
    split at hc0
    · rename_i c e fr hh
      have hbl : ∀ j, (a.add j).block = a.block := fun j => add_block a j
      rw [hbl] at hh
      split at hc0
      · cases hc0
      · rename_i hsp
        have hsp : a.spot = none := by
          cases hs : a.spot with
          | none => rfl
          | some x => exact absurd (by show (a.add 0).spot.isSome = true; simp [Addr.add, hs]) hsp
        have all : ∀ j, j < n → cs[j]? = c[a.off + j]? := by
          intro j hj
          obtain ⟨u, hu, hc⟩ := key j hj
          unfold World.cell? at hc
          rw [hbl, hh] at hc
          simp only [] at hc
          split at hc
          · cases hc
          · rw [hu]
            have : (a.add j).off = a.off + j := add_off hsp j
            rw [← this]; exact hc.symm
        refine ⟨c, e, fr, hh, hsp, h1, ?_, all⟩
        have hl := all (n - 1) (by omega)
        have : cs[n - 1]? = some cs[n - 1] := List.getElem?_eq_getElem (by omega)
        rw [this] at hl
        have := (Array.getElem?_eq_some_iff.1 hl.symm).1
        omega
    · cases hc0
  · cases h
theorem tyOk_int {n : Nat} {k : IntKind} {t : TypeId} (h : tyOk P n (.int k) t = true) : P.underlying t = some (.int k) := by
  cases n with
  | zero => simp [tyOk] at h
  | succ n =>
    simp only [tyOk] at h
    split at h <;> simp_all
theorem tyOk_bool {n : Nat} {t : TypeId} (h : tyOk P n .bool t = true) : P.underlying t = some .bool := by
  cases n with
  | zero => simp [tyOk] at h
  | succ n =>
    simp only [tyOk] at h
    split at h <;> simp_all
theorem tyOk_str {n : Nat} {t : TypeId} (h : tyOk P n .str t = true) : P.underlying t = some .string := by
  cases n with
  | zero => simp [tyOk] at h
  | succ n =>
    simp only [tyOk] at h
    split at h <;> simp_all
theorem tyOk_sl {n : Nat} {e : Ty} {t : TypeId} (h : tyOk P n (.sl e) t = true) : ∃ m e', P.underlying t = some (.slice e') ∧ tyOk P m e e' = true ∧ P.cellsOf e' = e.width ∧ 0 < e.width := by
  cases n with
  | zero => simp [tyOk] at h
  | succ n =>
    simp only [tyOk] at h
    split at h <;> simp_all
    exact ⟨n, h.1.1⟩
theorem tyOk_st {n : Nat} {fs : List Ty} {t : TypeId} (h : tyOk P n (.st fs) t = true) : ∃ m gs, P.underlying t = some (.struct gs) ∧ P.cellsOf t = widths fs ∧ tysOk P m 0 fs gs.toList = true := by
  cases n with
  | zero => simp [tyOk] at h
  | succ n =>
    simp only [tyOk] at h
    split at h <;> simp_all
    exact ⟨n, h.2⟩
theorem read_ty : ∀ (fuel n : Nat) (ty : Ty) (t : TypeId) (cs : List Value) (x : DataW H × List MemPlace), tyOk P n ty t = true → DataW.trod enc P w base sp held fuel t cs = some x → ∃ vs, IsV ty vs ∧ PRs w vs cs := by
  intro fuel
  induction fuel with
  | zero => intro n ty t cs x _ h; simp [DataW.trod] at h
  | succ fuel ih =>
    intro n ty t cs x ht h
    cases ty with
    | int k =>
      obtain ⟨m, rfl, _, hw⟩ := DataW.trod_int (tyOk_int ht) h
      simp only [Lit.wf, Bool.and_eq_true, decide_eq_true_eq] at hw
      exact ⟨[.s (.int k m)], ⟨m, rfl, hw.1, hw.2⟩, PRs.one (.s _)⟩
    | bool =>
      obtain ⟨b, rfl, _⟩ := DataW.trod_bool (tyOk_bool ht) h
      exact ⟨[.s (.bool b)], ⟨b, rfl⟩, PRs.one (.s _)⟩
    | str =>
      obtain ⟨b, rfl, _, hb⟩ := DataW.trod_string (tyOk_str ht) h
      exact ⟨[.s (.string b)], ⟨b, rfl, hb⟩, PRs.one (.s _)⟩
    | sl e =>
      obtain ⟨m, e', hu, he, hw, h0⟩ := tyOk_sl ht
      rcases DataW.trod_slice hu h with ⟨rfl, _⟩ | ⟨a, len, cap, elems, rest, n2, hn, rfl, _, hb, hlc, hcm, hel, hall, _⟩
      · exact ⟨[nilS], .inl rfl, PRs.one (.s _)⟩
      · have hn2 : n2 = fuel := by omega
        subst hn2
        rw [hw] at hall
        by_cases hl : len = 0
        · subst hl
          exact ⟨[.psl [] e.width], .inr ⟨[], rfl, Nat.zero_le _, fun x hx => by cases hx⟩, PRs.one (.psl0 _ _ _)⟩
        ·
          have one : ∀ i, i < len → ∃ cs vs, w.cells? base (a.add (i * e.width)) e.width = some cs ∧ IsV e vs ∧ PRs w vs cs := by
            intro i hi
            have hh := hall i hi
            have : elems[i]? = some elems[i] := List.getElem?_eq_getElem (by omega)
            rw [this, Option.bind_eq_some_iff] at hh
            obtain ⟨cs, h1, h2⟩ := hh
            obtain ⟨vs, h3, h4⟩ := ih m e e' cs _ he h2
            exact ⟨cs, vs, h1, h3, h4⟩
          obtain ⟨c0, _, hc0, _, _⟩ := one 0 (by omega)
          rw [Nat.zero_mul] at hc0
          have ha0 : a.add 0 = a := by simp [Addr.add]
          rw [ha0] at hc0
          obtain ⟨arr, el, fr, hB, hsp, _, _, _⟩ := cells_row hc0 h0
          have pos : ∀ i, i < len → ∃ vs, IsV e vs ∧ a.off + i * e.width + e.width ≤ arr.size ∧ ∀ (j : Nat) (x : V) (y : Value), vs[j]? = some x → arr[a.off + i * e.width + j]? = some y → PR (fun _ => False) w x y := by
            intro i hi
            obtain ⟨cs, vs, h1, h2, h3⟩ := one i hi
            obtain ⟨arr', el', fr', hB', _, hcl, hsz, hcj⟩ := cells_row h1 h0
            rw [add_block, hB] at hB'
            cases hB'
            rw [add_off hsp] at hsz hcj
            refine ⟨vs, h2, hsz, fun j x y hx hy => ?_⟩
            have hj : j < e.width := by rw [← h2.len]; exact (List.getElem?_eq_some_iff.1 hx).1
            exact h3.2 j x y hx (by rw [hcj j hj]; exact hy)
          obtain ⟨es, he1, he2⟩ : ∃ es : List (List V), es.length = len ∧ ∀ i vs, es[i]? = some vs → IsV e vs ∧ a.off + i * e.width + e.width ≤ arr.size ∧ ∀ (j : Nat) (x : V) (y : Value), vs[j]? = some x → arr[a.off + i * e.width + j]? = some y → PR (fun _ => False) w x y := by
            have : ∀ k, k ≤ len → ∃ es : List (List V), es.length = k ∧ ∀ i vs, es[i]? = some vs → IsV e vs ∧ a.off + i * e.width + e.width ≤ arr.size ∧ ∀ (j : Nat) (x : V) (y : Value), vs[j]? = some x → arr[a.off + i * e.width + j]? = some y → PR (fun _ => False) w x y := by
              intro k
              induction k with
              | zero => intro _; exact ⟨[], rfl, fun i vs h => by simp at h⟩
              | succ k ihk =>
                intro hk
                obtain ⟨es, h1, h2⟩ := ihk (by omega)
                obtain ⟨vs, h3⟩ := pos k (by omega)
                refine ⟨es ++ [vs], by simp [h1], fun i us hi => ?_⟩
                by_cases c : i < es.length
                · rw [List.getElem?_append_left c] at hi; exact h2 i us hi
                · rw [List.getElem?_append_right (by omega)] at hi
                  have : i - es.length = 0 := by
                    have := (List.getElem?_eq_some_iff.1 hi).1
                    simp at this; omega
                  rw [this] at hi
                  simp at hi
                  have hik : i = k := by omega
                  subst hik; subst hi
                  exact h3
            exact this len (Nat.le_refl _)
          refine ⟨[.psl es e.width], .inr ⟨es, rfl, by omega, fun x hx => ?_⟩, PRs.one ?_⟩
          · obtain ⟨i, hi⟩ := List.mem_iff_getElem?.1 hx
            exact (he2 i x hi).1
          · have hslice : Value.slice (some a) len cap = .slice (some ⟨a.block, a.off, none⟩) es.length cap := by
              rw [he1]
              congr 2
              cases a; simp at hsp; subst hsp; rfl
            rw [hslice]
            refine .psl es e.width a.block a.off cap arr el fr hB (fun h => h) (by omega) (fun i vs hi => (he2 i vs hi).1.len) ?_ (fun i vs j x y hi hx hy => (he2 i vs hi).2.2 j x y hx hy)
            have hlast := (he2 (len - 1) es[len - 1] (List.getElem?_eq_getElem (by omega))).2.1
            rw [he1]
            have : len * e.width = (len - 1) * e.width + e.width := by
              obtain ⟨k, rfl⟩ : ∃ k, len = k + 1 := ⟨len - 1, by omega⟩
              rw [Nat.add_sub_cancel, Nat.add_mul, Nat.one_mul]
            omega
    | st fs =>
      obtain ⟨m, gs, hu, hw, hts⟩ := tyOk_st ht
      obtain ⟨xs, n2, hn, _, hcl, hxl, hall⟩ := DataW.trod_struct hu h
      have hn2 : n2 = fuel := by omega
      subst hn2
      have key : ∀ (fs : List Ty) (m off : Nat) (gl : List Field), tysOk P m off fs gl = true → (∀ g ∈ gl, ∃ y, DataW.trod enc P w base sp held n2 g.type ((cs.drop g.offset).take (P.cellsOf g.type)) = some y) → off + widths fs = cs.length → ∃ vs, IsVs fs vs ∧ PRs w vs (cs.drop off) := by
        intro fs
        induction fs with
        | nil =>
          intro m off gl _ _ ho
          refine ⟨[], rfl, ?_⟩
          rw [List.drop_eq_nil_of_le (by simp [widths] at ho; omega)]
          exact ⟨rfl, fun i a b h => by simp at h⟩
        | cons f fs ihf =>
          intro m off gl htk hg ho
          cases m with
          | zero => simp [tysOk] at htk
          | succ m =>
            cases gl with
            | nil => simp [tysOk] at htk
            | cons g gl =>
              simp only [tysOk, Bool.and_eq_true, beq_iff_eq] at htk
              obtain ⟨⟨⟨h1, h2⟩, h3⟩, h4⟩ := htk
              obtain ⟨y, hy⟩ := hg g List.mem_cons_self
              obtain ⟨va, ha1, ha2⟩ := ih m f g.type _ y h3 hy
              obtain ⟨vb, hb1, hb2⟩ := ihf m (off + f.width) gl h4 (fun g hg' => hg g (List.mem_cons_of_mem _ hg')) (by simp only [widths] at ho; omega)
              refine ⟨va ++ vb, ⟨va, vb, rfl, ha1, hb1⟩, ?_⟩
              rw [h1, h2] at ha2
              have : cs.drop off = (cs.drop off).take f.width ++ cs.drop (off + f.width) := by
                rw [← List.drop_drop, List.take_append_drop]
              rw [this]
              exact ha2.app hb2
      obtain ⟨vs, h1, h2⟩ := key fs m 0 gs.toList hts (fun g hg => by
        obtain ⟨i, hi⟩ := List.mem_iff_getElem?.1 hg
        have hi' : gs[i]? = some g := by simpa using hi
        have h3 := hall i g hi'
        have hlt := (Array.getElem?_eq_some_iff.1 hi').1
        exact ⟨xs[i]'(by omega), by rw [h3]; exact List.getElem?_eq_getElem (by omega)⟩) (by omega)
      exact ⟨vs, h1, by simpa using h2⟩
def argV : Ty → List V → V
  | .st _, vs => .agg vs
  | _, [v] => v
  | _, _ => .unk
theorem read_arg {n : Nat} {ty : Ty} {t : TypeId} {v : Value} {d : DataW H} {ps : List MemPlace} (ht : tyOk P n ty t = true) (hf : (match ty with | .st _ => ∃ vs, v = .agg vs | _ => v.cells.toList = [v])) (h : DataW.Trod enc P w base sp held t v d ps) :
    ∃ vs, IsV ty vs ∧ VR (fun _ _ => none) (fun _ => False) w (argV ty vs) v := by
  obtain ⟨fuel, h⟩ := h
  obtain ⟨vs, h1, h2⟩ := read_ty fuel n ty t _ _ ht h
  refine ⟨vs, h1, ?_⟩
  have one : vs.length = 1 → v.cells.toList = [v] → ∃ x, vs = [x] ∧ VR (fun _ _ => none) (fun _ => False) w x v := by
    intro hl hc
    match vs, hl with
    | [x], _ =>
      rw [hc] at h2
      exact ⟨x, rfl, (h2.2 0 x v rfl rfl).vr⟩
  cases ty with
  | st fs =>
    obtain ⟨us, rfl⟩ := hf
    exact vr_agg_mk (vs := us.toList) h2.vrs
  | _ =>
    obtain ⟨x, rfl, hx⟩ := one h1.len hf
    exact hx
end
end Go.AM
set_option maxRecDepth 100000
namespace Go.Proofs.YtccallbknpbggaaDoor
open Go.ChangeShapes Go.WideShapes Go.ChangeAt Go.RowKit Go.AM
theorem mixed : Tryd.prog.follows .mixedOrders = true := by kernel_rfl
theorem sorts (m : Nat) : AnyZI.SortsIn Tryd.prog Tryd.sortedK_ren Fence.wide m :=
  ⟨fun blk off cap ss W hH hblk hsz => callsIn_wide.2 (Any.slices_Sort_int Tryd.sortK blk off cap ss W hH hblk hsz), fun p cap W => callsIn_wide.2 (Any.slices_Sort_int_none Tryd.sortK p cap W)⟩
theorem sorted_prim (fx : Nat → Option (Array Value × TypeId × Nat × Nat)) : FunOk Tryd.prog (PXf fx) k_slices_Sorted_int (.prim (sortedG k_maps_Keys_1)) := by
  refine sorted_ok (kt := 3) (t := 3) (Go.Proofs.enters_of Tryd.func42 (by kernel_rfl) rfl) Tryd.underlying3 ?_
  intro Bm b nn D0 w hBm hm hown hmax hbytes
  refine (callsIn_wide (n := 5)).1 ?_
  have hseq : SeqGives Fence.wide 2 Tryd.prog 47 #[.pointer (some ⟨Bm, 0, none⟩)] encZ (fun ss => ss.Perm (intKeys D0)) (Maps.size D0) w :=
    AnyZI.keys_gives (ρ := Tryd.keysK_ren) { Tryd.keysK with } Fence.wide _ trivial rfl (by omega) Bm b nn D0 w hBm hm hown
  exact AnyZI.sorted_in Tryd.sortedK Fence.wide 5 trivial trivial trivial trivial rfl (by omega) (sorts _) (Go.Proofs.enters_of Tryd.func46 (by kernel_rfl) rfl) 47 #[.pointer (some ⟨Bm, 0, none⟩)] trivial (Go.Proofs.enters_of Tryd.func47 (by kernel_rfl) rfl) _ _ hmax hbytes w hseq
theorem clone_prim (fx : Nat → Option (Array Value × TypeId × Nat × Nat)) : FunOk Tryd.prog (PXf fx) k_maps_Clone (.prim cloneG) :=
  clone_ok (Go.Proofs.enters_of Tryd.func35 (by kernel_rfl) rfl) (fun b es clock w hb => AnyW.maps_Clone Tryd.cloneK b es clock w hb) (fun w => AnyW.maps_Clone_nil Tryd.cloneK w)
def TabFx (fx : Nat → Option (Array Value × TypeId × Nat × Nat)) : Prop := ∃ o, fx 0 = some o ∧ ∀ j, j < Lib.deBruijn64tab.length → o.1[j]? = some (.int .u8 ((Lib.deBruijn64tab.getD j 0 : Nat) : Int))
theorem tz_prim (fx : Nat → Option (Array Value × TypeId × Nat × Nat)) (h : TabFx fx) : FunOk Tryd.prog (PXf fx) k_math_bits_TrailingZeros64 (.prim tzG) := by
  obtain ⟨⟨arr, rest⟩, h1, h2⟩ := h
  exact tz_ok (g := 0) h1 (Go.Proofs.enters_of Tryd.func34 (by kernel_rfl) rfl) h2 (fun x w hx hT => Any7.bits_TrailingZeros64 Tryd.tzK x hx w (fun _ => hT))
theorem tab_of_laid {W : World} (h : laidMetH Tryd.prog Rows.bitsOrderRow.laid W) : ∃ o : Array Value × TypeId × Nat × Nat, W.heap[0]? = some (.cells o.1 o.2.1 o.2.2) ∧ ∀ j, j < Lib.deBruijn64tab.length → o.1[j]? = some (.int .u8 ((Lib.deBruijn64tab.getD j 0 : Nat) : Int)) := by
  rw [MakeChecks.laidMetH_plain _ _ _ (by kernel_rfl)] at h
  exact tab_laid (tab := Lib.deBruijn64tab) (by kernel_rfl) (by kernel_rfl) Tryd.underlying72 Tryd.underlying5 (by kernel_rfl) (by decide) h
theorem tab_fx {o : Array Value × TypeId × Nat × Nat} (h : ∀ j, j < Lib.deBruijn64tab.length → o.1[j]? = some (.int .u8 ((Lib.deBruijn64tab.getD j 0 : Nat) : Int))) : TabFx (fun B => if B = 0 then some o else none) := ⟨o, if_pos rfl, h⟩
theorem fx_heap {W : World} {ob : Array Value × TypeId × Nat × Nat} (h : W.heap[0]? = some (.cells ob.1 ob.2.1 ob.2.2)) {B : Nat} {o : Array Value × TypeId × Nat × Nat} (e : (PXf (fun B => if B = 0 then some ob else none)).fx B = some o) : W.heap[B]? = some (.cells o.1 o.2.1 o.2.2) := by
  have e' : (if B = 0 then some ob else none) = some o := e
  split at e'
  · rename_i hB
    subst hB
    cases e'
    exact h
  · cases e'
theorem door_met (os : Os) (args : Array Value) : laidMetH Tryd.prog Rows.bitsOrderRow.laid ((World.doorLaid Tryd.prog 400 os).forCall (fun _ _ => 0) ⟨#[], args, []⟩).memory := by
  rw [MakeChecks.laidMetH_plain _ _ _ (by kernel_rfl)]
  exact laidMet_of_run' 8 (by kernel_rfl) (by kernel_rfl)
theorem CQp_ok (fx : Nat → Option (Array Value × TypeId × Nat × Nat)) (hfx : TabFx fx) : ∀ k c, CQp k = some c → FunOk Tryd.prog (PXf fx) k c := by
  intro k c h
  unfold CQp at h
  split at h
  · rename_i e; subst e; cases h; exact sorted_prim fx
  · split at h
    · rename_i e; subst e; cases h; exact tz_prim fx hfx
    · exact CQ_ok fx k c h
theorem wakes_prim (fx : Nat → Option (Array Value × TypeId × Nat × Nat)) (hfx : TabFx fx) : FunOk Tryd.prog (PXf fx) k_gnomonlaw01_wakes (.prim (primC (bl true))) := prim_ok mixed (CQp_ok fx hfx) checks_true rfl
theorem wakes_fun {CT : Nat → Option CFun} (hT : CT k_gnomonlaw01_wakes = some (.prim (primC (bl true)))) (base : Nat) (H : Heap) : callW CT (.fn k_gnomonlaw01_wakes [] []) [] base H = some (.s (.bool true), H) := callW_eq (by simp only [evCall, hT]; rfl)
theorem int_arg {v : List V} (h : IsV (.int .i64) v) : ∃ z, v = [.s (.int .i64 z)] ∧ z < 2 ^ 63 := by
  obtain ⟨n, rfl, _, hn⟩ := h
  have hm : IntKind.i64.max = 9223372036854775807 := by decide
  rw [hm] at hn
  exact ⟨n, rfl, by omega⟩
end Go.Proofs.YtccallbknpbggaaDoor
set_option maxRecDepth 100000
namespace Go.Proofs.YtccallbknpbggaaDoor
open Go.AM
abbrev k_gnomonlaw01_place : Nat := 13
def s_gnomonlaw01_place_r0_k : List Nat := [2, 3, 4, 5, 6, 7, 8, 9, 10, 11, 12, 13, 14]
theorem s_gnomonlaw01_place_r0_kT : killV s_gnomonlaw01_place_r0_k (startV 15 [] 2) = [] := by kernel_rfl
theorem s_gnomonlaw01_place_r0_kA0 : s_gnomonlaw01_place_r0_k.contains 0 = false := by kernel_rfl
theorem s_gnomonlaw01_place_r0_kA1 : s_gnomonlaw01_place_r0_k.contains 1 = false := by kernel_rfl
def s_gnomonlaw01_place_r0 : List AOper := [
  ⟨some 4, (.move (.c (.s (.int .i64 0)))), none⟩]
theorem s_gnomonlaw01_place_r0_tale (fr : List V) (H : Heap) : evTale (symAll s_gnomonlaw01_place_r0 s_gnomonlaw01_place_r0_k []) s_gnomonlaw01_place_r0_k fr H = evTale (some (5, [], [])) s_gnomonlaw01_place_r0_k fr H := tale_row (items := [.cc (.s (.int .i64 0))]) (by kernel_rfl) fr H
def s_gnomonlaw01_place_r1 : List AOper := [
  ⟨some 6, (.move (.t 0)), none⟩,
  ⟨some 7, (.move (.t 1)), none⟩,
  ⟨some 8, (.bin .rem (.t 6) (.t 7)), none⟩,
  ⟨some 5, (.move (.t 8)), none⟩]
theorem s_gnomonlaw01_place_r1_tale (fr : List V) (H : Heap) : evTale (symAll s_gnomonlaw01_place_r1 [0, 6, 7, 8] [5]) [0, 6, 7, 8] fr H = evTale (some (9, [], [(5, (.op (.bin .rem (.t 0) (.t 1)) [(.t 0), (.t 1)]))])) [0, 6, 7, 8] fr H := tale_row (items := [.tt 0, .tt 1, .sub 0 [] [], .sub 0 [] []]) (by kernel_rfl) fr H
def s_gnomonlaw01_place_r2 : List AOper := [
  ⟨some 9, (.move (.t 5)), none⟩,
  ⟨some 10, (.bin .lss (.t 9) (.c (.s (.int .i64 0)))), none⟩]
theorem s_gnomonlaw01_place_r2_tale (fr : List V) (H : Heap) : evTale (symAll s_gnomonlaw01_place_r2 [9] [10]) [9] fr H = evTale (some (11, [], [(10, (.op (.bin .lss (.t 0) (.c (.s (.int .i64 0)))) [(.t 5), (.c (.s (.int .i64 0)))]))])) [9] fr H := tale_row (items := [.tt 5, .sub 0 [] []]) (by kernel_rfl) fr H
def s_gnomonlaw01_place_r3 : List AOper := [
  ⟨some 11, (.move (.t 5)), none⟩,
  ⟨some 12, (.move (.t 1)), none⟩,
  ⟨some 13, (.bin .add (.t 11) (.t 12)), none⟩,
  ⟨some 5, (.move (.t 13)), none⟩]
theorem s_gnomonlaw01_place_r3_tale (fr : List V) (H : Heap) : evTale (symAll s_gnomonlaw01_place_r3 [1, 10, 11, 12, 13] [5]) [1, 10, 11, 12, 13] fr H = evTale (some (14, [], [(5, (.op (.bin .add (.t 0) (.t 1)) [(.t 5), (.t 1)]))])) [1, 10, 11, 12, 13] fr H := tale_row (items := [.tt 5, .tt 1, .sub 0 [] [], .sub 0 [] []]) (by kernel_rfl) fr H
def s_gnomonlaw01_place_r4 : List AOper := [
  ⟨some 14, (.move (.t 5)), none⟩,
  ⟨some 4, (.move (.t 14)), none⟩]
theorem s_gnomonlaw01_place_r4_tale (fr : List V) (H : Heap) : evTale (symAll s_gnomonlaw01_place_r4 [1, 5, 10, 14] [4]) [1, 5, 10, 14] fr H = evTale (some (15, [], [(4, (.t 5))])) [1, 5, 10, 14] fr H := tale_row (items := [.tt 5, .tt 5]) (by kernel_rfl) fr H
def s_gnomonlaw01_place : ACFun := { ntmps := 15, results := [(.tmp 4)], body :=
  (.seq (.regionE s_gnomonlaw01_place_r0 s_gnomonlaw01_place_r0_k [])
  (.seq (.regionE s_gnomonlaw01_place_r1 [0, 6, 7, 8] [5])
  (.seq (.seq (.regionE s_gnomonlaw01_place_r2 [9] [10])
  (.cond (.t 10)
  (.regionE s_gnomonlaw01_place_r3 [1, 10, 11, 12, 13] [5])
  .skip))
  (.seq (.regionE s_gnomonlaw01_place_r4 [1, 5, 10, 14] [4])
  .ret)))) }
abbrev k_gnomonref01_Same : Nat := 15
def s_gnomonref01_Same_r0_k : List Nat := [2, 3, 4, 5, 6, 7, 8, 9, 10, 11, 12, 13, 14, 15, 16, 17, 18, 19, 20, 21, 22, 23, 24, 25]
theorem s_gnomonref01_Same_r0_kT : killV s_gnomonref01_Same_r0_k (startV 26 [] 2) = [] := by kernel_rfl
theorem s_gnomonref01_Same_r0_kA0 : s_gnomonref01_Same_r0_k.contains 0 = false := by kernel_rfl
theorem s_gnomonref01_Same_r0_kA1 : s_gnomonref01_Same_r0_k.contains 1 = false := by kernel_rfl
def s_gnomonref01_Same_r0 : List AOper := [
  ⟨some 4, (.move (.c (.s (.bool false)))), none⟩]
theorem s_gnomonref01_Same_r0_tale (fr : List V) (H : Heap) : evTale (symAll s_gnomonref01_Same_r0 s_gnomonref01_Same_r0_k []) s_gnomonref01_Same_r0_k fr H = evTale (some (5, [], [])) s_gnomonref01_Same_r0_k fr H := tale_row (items := [.cc (.s (.bool false))]) (by kernel_rfl) fr H
def s_gnomonref01_Same_r1 : List AOper := [
  ⟨some 6, (.move (.t 0)), none⟩,
  ⟨some 7, (.lenS .s (.t 6)), none⟩,
  ⟨some 8, (.move (.t 1)), none⟩,
  ⟨some 9, (.lenS .s (.t 8)), none⟩,
  ⟨some 10, (.bin .neq (.t 7) (.t 9)), none⟩]
theorem s_gnomonref01_Same_r1_tale (fr : List V) (H : Heap) : evTale (symAll s_gnomonref01_Same_r1 [6, 7, 8, 9] [10]) [6, 7, 8, 9] fr H = evTale (some (11, [], [(10, (.op (.bin .neq (.t 0) (.t 1)) [(.op (.lenS .s (.t 0)) [(.t 0)]), (.op (.lenS .s (.t 0)) [(.t 1)])]))])) [6, 7, 8, 9] fr H := tale_row (items := [.tt 0, .sub 0 [0] [], .tt 1, .sub 0 [1] [], .sub 0 [] []]) (by kernel_rfl) fr H
def s_gnomonref01_Same_r2 : List AOper := [
  ⟨some 4, (.move (.c (.s (.bool false)))), none⟩]
theorem s_gnomonref01_Same_r2_tale (fr : List V) (H : Heap) : evTale (symAll s_gnomonref01_Same_r2 [0, 1, 10] [4]) [0, 1, 10] fr H = evTale (some (5, [], [(4, (.c (.s (.bool false))))])) [0, 1, 10] fr H := tale_row (items := [.cc (.s (.bool false))]) (by kernel_rfl) fr H
def s_gnomonref01_Same_r3 : List AOper := [
  ⟨some 5, (.move (.c (.s (.int .i64 0)))), none⟩]
theorem s_gnomonref01_Same_r3_tale (fr : List V) (H : Heap) : evTale (symAll s_gnomonref01_Same_r3 [10] [5]) [10] fr H = evTale (some (6, [], [(5, (.c (.s (.int .i64 0))))])) [10] fr H := tale_row (items := [.cc (.s (.int .i64 0))]) (by kernel_rfl) fr H
def s_gnomonref01_Same_r4 : List AOper := [
  ⟨some 11, (.move (.t 5)), none⟩,
  ⟨some 12, (.move (.t 0)), none⟩,
  ⟨some 13, (.lenS .s (.t 12)), none⟩,
  ⟨some 14, (.bin .lss (.t 11) (.t 13)), none⟩]
theorem s_gnomonref01_Same_r4_tale (fr : List V) (H : Heap) : evTale (symAll s_gnomonref01_Same_r4 [11, 12, 13] [14]) [11, 12, 13] fr H = evTale (some (15, [], [(14, (.op (.bin .lss (.t 0) (.t 1)) [(.t 5), (.op (.lenS .s (.t 0)) [(.t 0)])]))])) [11, 12, 13] fr H := tale_row (items := [.tt 5, .tt 0, .sub 0 [1] [], .sub 0 [] []]) (by kernel_rfl) fr H
def s_gnomonref01_Same_r5 : List AOper := [
  ⟨some 17, (.move (.t 0)), none⟩,
  ⟨some 18, (.move (.t 5)), none⟩,
  ⟨some 19, (.indexAddr 1 (.t 17) (.t 18)), none⟩,
  ⟨some 20, (.load false 1 (.t 19)), none⟩,
  ⟨some 21, (.move (.t 1)), none⟩,
  ⟨some 22, (.move (.t 5)), none⟩,
  ⟨some 23, (.indexAddr 1 (.t 21) (.t 22)), none⟩,
  ⟨some 24, (.load false 1 (.t 23)), none⟩,
  ⟨some 25, (.bin .neq (.t 20) (.t 24)), none⟩]
theorem s_gnomonref01_Same_r5_tale (fr : List V) (H : Heap) : evTale (symAll s_gnomonref01_Same_r5 [14, 17, 18, 19, 20, 21, 22, 23, 24] [25]) [14, 17, 18, 19, 20, 21, 22, 23, 24] fr H = evTale (some (26, [], [(25, (.op (.bin .neq (.t 0) (.t 1)) [(.op (.load false 1 (.t 0)) [(.op (.indexAddr 1 (.t 0) (.t 1)) [(.t 0), (.t 5)])]), (.op (.load false 1 (.t 0)) [(.op (.indexAddr 1 (.t 0) (.t 1)) [(.t 1), (.t 5)])])]))])) [14, 17, 18, 19, 20, 21, 22, 23, 24] fr H := tale_row (items := [.tt 0, .tt 5, .sub 0 [0, 0] [], .sub 0 [0] [], .tt 1, .tt 5, .sub 0 [1, 0] [], .sub 0 [1] [], .sub 0 [] []]) (by kernel_rfl) fr H
def s_gnomonref01_Same_r6 : List AOper := [
  ⟨some 4, (.move (.c (.s (.bool false)))), none⟩]
theorem s_gnomonref01_Same_r6_tale (fr : List V) (H : Heap) : evTale (symAll s_gnomonref01_Same_r6 [0, 1, 5, 25] [4]) [0, 1, 5, 25] fr H = evTale (some (5, [], [(4, (.c (.s (.bool false))))])) [0, 1, 5, 25] fr H := tale_row (items := [.cc (.s (.bool false))]) (by kernel_rfl) fr H
def s_gnomonref01_Same_r7 : List AOper := [
  ⟨some 15, (.move (.t 5)), none⟩,
  ⟨some 16, (.bin .add (.t 15) (.c (.s (.int .i64 1)))), none⟩,
  ⟨some 5, (.move (.t 16)), none⟩]
theorem s_gnomonref01_Same_r7_tale (fr : List V) (H : Heap) : evTale (symAll s_gnomonref01_Same_r7 [15, 16, 25] [5]) [15, 16, 25] fr H = evTale (some (17, [], [(5, (.op (.bin .add (.t 0) (.c (.s (.int .i64 1)))) [(.t 5), (.c (.s (.int .i64 1)))]))])) [15, 16, 25] fr H := tale_row (items := [.tt 5, .sub 0 [] [], .sub 0 [] []]) (by kernel_rfl) fr H
def s_gnomonref01_Same_l0_b : ACode :=
  (.seq (.seq (.regionE s_gnomonref01_Same_r4 [11, 12, 13] [14])
  (.cond (.t 14)
  .skip
  (.exit 0)))
  (.seq (.block 1
  (.seq (.regionE s_gnomonref01_Same_r5 [14, 17, 18, 19, 20, 21, 22, 23, 24] [25])
  (.cond (.t 25)
  (.seq (.regionE s_gnomonref01_Same_r6 [0, 1, 5, 25] [4])
  .ret)
  .skip)))
  (.regionE s_gnomonref01_Same_r7 [15, 16, 25] [5])))
def s_gnomonref01_Same_l0 : ACode := s_gnomonref01_Same_l0_b
theorem s_gnomonref01_Same_l0_ev (call : CallF) (it : IterF) (base : Nat) (fr : List V) (H : Heap) : evC call it base s_gnomonref01_Same_l0 fr H = evC call it base s_gnomonref01_Same_l0_b fr H := rfl
def s_gnomonref01_Same_r8 : List AOper := [
  ⟨some 4, (.move (.c (.s (.bool true)))), none⟩]
theorem s_gnomonref01_Same_r8_tale (fr : List V) (H : Heap) : evTale (symAll s_gnomonref01_Same_r8 [0, 1, 5, 14] [4]) [0, 1, 5, 14] fr H = evTale (some (5, [], [(4, (.c (.s (.bool true))))])) [0, 1, 5, 14] fr H := tale_row (items := [.cc (.s (.bool true))]) (by kernel_rfl) fr H
def s_gnomonref01_Same : ACFun := { ntmps := 26, results := [(.tmp 4)], body :=
  (.seq (.regionE s_gnomonref01_Same_r0 s_gnomonref01_Same_r0_k [])
  (.seq (.seq (.regionE s_gnomonref01_Same_r1 [6, 7, 8, 9] [10])
  (.cond (.t 10)
  (.seq (.regionE s_gnomonref01_Same_r2 [0, 1, 10] [4])
  .ret)
  .skip))
  (.seq (.seq (.regionE s_gnomonref01_Same_r3 [10] [5])
  (.block 0
  (.loop [] s_gnomonref01_Same_l0)))
  (.seq (.regionE s_gnomonref01_Same_r8 [0, 1, 5, 14] [4])
  .ret)))) }
abbrev k_gnomonref01_Has : Nat := 39
def s_gnomonref01_Has_r0_k : List Nat := [2, 3, 4, 5, 6, 7, 8, 9, 10, 11, 12, 13, 14, 15, 16, 17]
theorem s_gnomonref01_Has_r0_kT : killV s_gnomonref01_Has_r0_k (startV 18 [] 2) = [] := by kernel_rfl
theorem s_gnomonref01_Has_r0_kA0 : s_gnomonref01_Has_r0_k.contains 0 = false := by kernel_rfl
theorem s_gnomonref01_Has_r0_kA1 : s_gnomonref01_Has_r0_k.contains 1 = false := by kernel_rfl
def s_gnomonref01_Has_r0 : List AOper := [
  ⟨some 4, (.move (.c (.s (.bool false)))), none⟩]
theorem s_gnomonref01_Has_r0_tale (fr : List V) (H : Heap) : evTale (symAll s_gnomonref01_Has_r0 s_gnomonref01_Has_r0_k []) s_gnomonref01_Has_r0_k fr H = evTale (some (5, [], [])) s_gnomonref01_Has_r0_k fr H := tale_row (items := [.cc (.s (.bool false))]) (by kernel_rfl) fr H
def s_gnomonref01_Has_r1 : List AOper := [
  ⟨some 5, (.move (.c (.s (.int .i64 0)))), none⟩]
theorem s_gnomonref01_Has_r1_tale (fr : List V) (H : Heap) : evTale (symAll s_gnomonref01_Has_r1 [] [5]) [] fr H = evTale (some (6, [], [(5, (.c (.s (.int .i64 0))))])) [] fr H := tale_row (items := [.cc (.s (.int .i64 0))]) (by kernel_rfl) fr H
def s_gnomonref01_Has_r2 : List AOper := [
  ⟨some 6, (.move (.t 5)), none⟩,
  ⟨some 7, (.move (.t 0)), none⟩,
  ⟨some 8, (.lenS .s (.t 7)), none⟩,
  ⟨some 9, (.bin .lss (.t 6) (.t 8)), none⟩]
theorem s_gnomonref01_Has_r2_tale (fr : List V) (H : Heap) : evTale (symAll s_gnomonref01_Has_r2 [6, 7, 8] [9]) [6, 7, 8] fr H = evTale (some (10, [], [(9, (.op (.bin .lss (.t 0) (.t 1)) [(.t 5), (.op (.lenS .s (.t 0)) [(.t 0)])]))])) [6, 7, 8] fr H := tale_row (items := [.tt 5, .tt 0, .sub 0 [1] [], .sub 0 [] []]) (by kernel_rfl) fr H
def s_gnomonref01_Has_r3 : List AOper := [
  ⟨some 12, (.move (.t 0)), none⟩,
  ⟨some 13, (.move (.t 5)), none⟩,
  ⟨some 14, (.indexAddr 1 (.t 12) (.t 13)), none⟩,
  ⟨some 15, (.load false 1 (.t 14)), none⟩,
  ⟨some 16, (.move (.t 1)), none⟩,
  ⟨some 17, (.bin .eql (.t 15) (.t 16)), none⟩]
theorem s_gnomonref01_Has_r3_tale (fr : List V) (H : Heap) : evTale (symAll s_gnomonref01_Has_r3 [9, 12, 13, 14, 15, 16] [17]) [9, 12, 13, 14, 15, 16] fr H = evTale (some (18, [], [(17, (.op (.bin .eql (.t 0) (.t 1)) [(.op (.load false 1 (.t 0)) [(.op (.indexAddr 1 (.t 0) (.t 1)) [(.t 0), (.t 5)])]), (.t 1)]))])) [9, 12, 13, 14, 15, 16] fr H := tale_row (items := [.tt 0, .tt 5, .sub 0 [0, 0] [], .sub 0 [0] [], .tt 1, .sub 0 [] []]) (by kernel_rfl) fr H
def s_gnomonref01_Has_r4 : List AOper := [
  ⟨some 4, (.move (.c (.s (.bool true)))), none⟩]
theorem s_gnomonref01_Has_r4_tale (fr : List V) (H : Heap) : evTale (symAll s_gnomonref01_Has_r4 [0, 1, 5, 17] [4]) [0, 1, 5, 17] fr H = evTale (some (5, [], [(4, (.c (.s (.bool true))))])) [0, 1, 5, 17] fr H := tale_row (items := [.cc (.s (.bool true))]) (by kernel_rfl) fr H
def s_gnomonref01_Has_r5 : List AOper := [
  ⟨some 10, (.move (.t 5)), none⟩,
  ⟨some 11, (.bin .add (.t 10) (.c (.s (.int .i64 1)))), none⟩,
  ⟨some 5, (.move (.t 11)), none⟩]
theorem s_gnomonref01_Has_r5_tale (fr : List V) (H : Heap) : evTale (symAll s_gnomonref01_Has_r5 [10, 11, 17] [5]) [10, 11, 17] fr H = evTale (some (12, [], [(5, (.op (.bin .add (.t 0) (.c (.s (.int .i64 1)))) [(.t 5), (.c (.s (.int .i64 1)))]))])) [10, 11, 17] fr H := tale_row (items := [.tt 5, .sub 0 [] [], .sub 0 [] []]) (by kernel_rfl) fr H
def s_gnomonref01_Has_l0_b : ACode :=
  (.seq (.seq (.regionE s_gnomonref01_Has_r2 [6, 7, 8] [9])
  (.cond (.t 9)
  .skip
  (.exit 0)))
  (.seq (.block 1
  (.seq (.regionE s_gnomonref01_Has_r3 [9, 12, 13, 14, 15, 16] [17])
  (.cond (.t 17)
  (.seq (.regionE s_gnomonref01_Has_r4 [0, 1, 5, 17] [4])
  .ret)
  .skip)))
  (.regionE s_gnomonref01_Has_r5 [10, 11, 17] [5])))
def s_gnomonref01_Has_l0 : ACode := s_gnomonref01_Has_l0_b
theorem s_gnomonref01_Has_l0_ev (call : CallF) (it : IterF) (base : Nat) (fr : List V) (H : Heap) : evC call it base s_gnomonref01_Has_l0 fr H = evC call it base s_gnomonref01_Has_l0_b fr H := rfl
def s_gnomonref01_Has_r6 : List AOper := [
  ⟨some 4, (.move (.c (.s (.bool false)))), none⟩]
theorem s_gnomonref01_Has_r6_tale (fr : List V) (H : Heap) : evTale (symAll s_gnomonref01_Has_r6 [0, 1, 5, 9] [4]) [0, 1, 5, 9] fr H = evTale (some (5, [], [(4, (.c (.s (.bool false))))])) [0, 1, 5, 9] fr H := tale_row (items := [.cc (.s (.bool false))]) (by kernel_rfl) fr H
def s_gnomonref01_Has : ACFun := { ntmps := 18, results := [(.tmp 4)], body :=
  (.seq (.regionE s_gnomonref01_Has_r0 s_gnomonref01_Has_r0_k [])
  (.seq (.seq (.regionE s_gnomonref01_Has_r1 [] [5])
  (.block 0
  (.loop [] s_gnomonref01_Has_l0)))
  (.seq (.regionE s_gnomonref01_Has_r6 [0, 1, 5, 9] [4])
  .ret))) }
def a_gnomonlaw01_place := And.intro @s_gnomonlaw01_place_r0_tale (And.intro @s_gnomonlaw01_place_r0_kT (And.intro @s_gnomonlaw01_place_r0_kA0 (And.intro @s_gnomonlaw01_place_r0_kA1 (And.intro @s_gnomonlaw01_place_r1_tale (And.intro @s_gnomonlaw01_place_r2_tale (And.intro @s_gnomonlaw01_place_r3_tale (@s_gnomonlaw01_place_r4_tale)))))))
def a_gnomonref01_Same := And.intro @s_gnomonref01_Same_r0_tale (And.intro @s_gnomonref01_Same_r0_kT (And.intro @s_gnomonref01_Same_r0_kA0 (And.intro @s_gnomonref01_Same_r0_kA1 (And.intro @s_gnomonref01_Same_r1_tale (And.intro @s_gnomonref01_Same_r2_tale (And.intro @s_gnomonref01_Same_r3_tale (And.intro @s_gnomonref01_Same_r4_tale (And.intro @s_gnomonref01_Same_r5_tale (And.intro @s_gnomonref01_Same_r6_tale (And.intro @s_gnomonref01_Same_r7_tale (And.intro @s_gnomonref01_Same_l0_ev (@s_gnomonref01_Same_r8_tale))))))))))))
def a_gnomonref01_Has := And.intro @s_gnomonref01_Has_r0_tale (And.intro @s_gnomonref01_Has_r0_kT (And.intro @s_gnomonref01_Has_r0_kA0 (And.intro @s_gnomonref01_Has_r0_kA1 (And.intro @s_gnomonref01_Has_r1_tale (And.intro @s_gnomonref01_Has_r2_tale (And.intro @s_gnomonref01_Has_r3_tale (And.intro @s_gnomonref01_Has_r4_tale (And.intro @s_gnomonref01_Has_r5_tale (And.intro @s_gnomonref01_Has_l0_ev (@s_gnomonref01_Has_r6_tale))))))))))
theorem CB2_13 : compK Tryd.prog PX0 13 = some (false, s_gnomonlaw01_place.ntmps, s_gnomonlaw01_place.results, s_gnomonlaw01_place.body.bare) := by kernel_rfl
theorem CB2_15 : compK Tryd.prog PX0 15 = some (false, s_gnomonref01_Same.ntmps, s_gnomonref01_Same.results, s_gnomonref01_Same.body.bare) := by kernel_rfl
theorem CB2_39 : compK Tryd.prog PX0 39 = some (false, s_gnomonref01_Has.ntmps, s_gnomonref01_Has.results, s_gnomonref01_Has.body.bare) := by kernel_rfl
end Go.Proofs.YtccallbknpbggaaDoor
set_option maxRecDepth 100000
namespace Go.Proofs.YtccallbknpbggaaDoor
open Go.AM
theorem drop_cons {α : Type} {l r : List α} {x : α} {k : Nat} (h : l.drop k = x :: r) : l[k]? = some x ∧ k < l.length ∧ l.drop (k + 1) = r := by
  have hx : l[k]? = some x := by have := congrArg (·[0]?) h; simp only [List.getElem?_drop] at this; exact this
  exact ⟨hx, (List.getElem?_eq_some_iff.1 hx).1, by rw [← List.drop_drop, h]; rfl⟩
theorem drop_nil {α : Type} {l : List α} {k : Nat} (h : l.drop k = []) (hk : k ≤ l.length) : k = l.length := by
  have := congrArg List.length h
  simp at this
  omega
theorem iV_at {H : Heap} {v : V} {l : List Int} (h : Rd H v (l.map iV)) (hw : Wide1 v) {k : Nat} {x : Int} (hx : l[k]? = some x) : ∃ a, xIndexAddr 1 v (.s (.int .i64 k)) = some a ∧ xLoad H false 1 a = some (.s (.int .i64 x)) := h.at' hw (by rw [List.getElem?_map, hx]; rfl)
theorem iV_len {H : Heap} {v : V} {l : List Int} (h : Rd H v (l.map iV)) : xLen H .s v = some (.s (.int .i64 l.length)) := by have := h.len; rwa [List.length_map] at this
theorem rhas_loop (call : CallF) (base : Nat) (H : Heap) (v : V) (l : List Int) (y : Int) (hv : Rd H v (l.map iV)) (hw : Wide1 v) (hn : l.length < 2 ^ 62) : ∀ (r : List Int) (k : Nat), l.drop k = r → k ≤ l.length →
    itW (evC call itW base s_gnomonref01_Has_l0) [] H.length (frOf 18 [(0, v), (1, .s (.int .i64 y)), (5, .s (.int .i64 k))]) H =
      bif r.contains y then some (.ret, frOf 18 [(4, .s (.bool true))], H) else some (.ext 0, frOf 18 [(0, v), (1, .s (.int .i64 y)), (5, .s (.int .i64 l.length)), (9, .s (.bool false))], H) := by
  intro r
  induction r with
  | nil =>
    intro k hd hk
    obtain rfl := drop_nil hd hk
    rw [itW_step]
    simp only [a_gnomonref01_Has,s_gnomonref01_Has_l0_b, am0,am1,am2,am3,am4,am5,am6,am7,bl,i64,reduceIte,reduceCtorEq,Nat.reduceEqDiff,Nat.reduceLT,Nat.reduceLeDiff,Nat.reduceBEq,Nat.reduceAdd,fillA,splice,Nat.reduceMul,al0,al1,al2,al3,al4,al5,al6,al7,al8,al9,al10,al11,al12,al13,al14,al15,al16,al17,al18,al19,al20,al21,al22,al23,al24,al25,al26,al27,al28,al29,al30,al31,al32,al33,al34,amY,op_eqP, iV_len hv, Int.lt_irrefl, trim_same rfl, List.contains_nil]
  | cons x r ih =>
    intro k hd hk
    obtain ⟨hx, hlt, hd'⟩ := drop_cons hd
    obtain ⟨a, ha1, ha2⟩ := iV_at hv hw hx
    have hlt' : (k : Int) < (l.length : Int) := by omega
    have hwk := wrap_pos (n := k) (by omega)
    rw [itW_step]
    cases hxy : x == y with
    | true =>
      have : (x :: r).contains y = true := by rw [List.contains_cons, beq_iff_eq.1 hxy]; simp
      simp only [a_gnomonref01_Has,s_gnomonref01_Has_l0_b, am0,am1,am2,am3,am4,am5,am6,am7,bl,i64,reduceIte,reduceCtorEq,Nat.reduceEqDiff,Nat.reduceLT,Nat.reduceLeDiff,Nat.reduceBEq,Nat.reduceAdd,fillA,splice,Nat.reduceMul,al0,al1,al2,al3,al4,al5,al6,al7,al8,al9,al10,al11,al12,al13,al14,al15,al16,al17,al18,al19,al20,al21,al22,al23,al24,al25,al26,al27,al28,al29,al30,al31,al32,al33,al34,amY,op_eqP, iV_len hv, hlt', ha1, ha2, hxy, trim_same rfl, this]
    | false =>
      have : (x :: r).contains y = r.contains y := by
        have : (y == x) = false := by rw [beq_eq_false_iff_ne] at hxy ⊢; exact fun e => hxy e.symm
        rw [List.contains_cons, this, Bool.false_or]
      simp only [a_gnomonref01_Has,s_gnomonref01_Has_l0_b, am0,am1,am2,am3,am4,am5,am6,am7,bl,i64,reduceIte,reduceCtorEq,Nat.reduceEqDiff,Nat.reduceLT,Nat.reduceLeDiff,Nat.reduceBEq,Nat.reduceAdd,fillA,splice,Nat.reduceMul,al0,al1,al2,al3,al4,al5,al6,al7,al8,al9,al10,al11,al12,al13,al14,al15,al16,al17,al18,al19,al20,al21,al22,al23,al24,al25,al26,al27,al28,al29,al30,al31,al32,al33,al34,amY,op_eqP, iV_len hv, hlt', ha1, ha2, hxy, hwk, trim_same rfl, this]
      exact ih (k + 1) hd' (by omega)
theorem rhas_fun {CT : Nat → Option CFun} (hT : CT k_gnomonref01_Has = some (.code s_gnomonref01_Has)) (base : Nat) (H : Heap) (v : V) (l : List Int) (y : Int) (hv : Rd H v (l.map iV)) (hw : Wide1 v) (hn : l.length < 2 ^ 62) :
    callW CT (.fn k_gnomonref01_Has [] []) [v, .s (.int .i64 y)] base H = some (.s (.bool (l.contains y)), H) := by
  refine callW_fn (c := s_gnomonref01_Has) hT (by simp [s_gnomonref01_Has]) ?_
  have hl := rhas_loop (callW CT) base H v l y hv hw hn l 0 rfl (Nat.zero_le _)
  rw [cast0] at hl
  simp only [s_gnomonref01_Has, a_gnomonref01_Has,s_gnomonref01_Has_l0_b, am0,am1,am2,am3,am4,am5,am6,am7,bl,i64,reduceIte,reduceCtorEq,Nat.reduceEqDiff,Nat.reduceLT,Nat.reduceLeDiff,Nat.reduceBEq,Nat.reduceAdd,fillA,splice,Nat.reduceMul,al0,al1,al2,al3,al4,al5,al6,al7,al8,al9,al10,al11,al12,al13,al14,al15,al16,al17,al18,al19,al20,al21,al22,al23,al24,al25,al26,al27,al28,al29,al30,al31,al32,al33,al34,amY,op_eqP, hl]
  cases l.contains y <;> simp only [a_gnomonref01_Has,s_gnomonref01_Has_l0_b, am0,am1,am2,am3,am4,am5,am6,am7,bl,i64,reduceIte,reduceCtorEq,Nat.reduceEqDiff,Nat.reduceLT,Nat.reduceLeDiff,Nat.reduceBEq,Nat.reduceAdd,fillA,splice,Nat.reduceMul,al0,al1,al2,al3,al4,al5,al6,al7,al8,al9,al10,al11,al12,al13,al14,al15,al16,al17,al18,al19,al20,al21,al22,al23,al24,al25,al26,al27,al28,al29,al30,al31,al32,al33,al34,amY,op_eqP]
theorem same_loop (call : CallF) (base : Nat) (H : Heap) (v w : V) (l l2 : List Int) (hv : Rd H v (l.map iV)) (hw : Wide1 v) (hv2 : Rd H w (l2.map iV)) (hw2 : Wide1 w) (hn : l.length < 2 ^ 62) (hll : l2.length = l.length) : ∀ (r r2 : List Int) (k : Nat), l.drop k = r → l2.drop k = r2 → k ≤ l.length →
    itW (evC call itW base s_gnomonref01_Same_l0) [] H.length (frOf 26 [(0, v), (1, w), (5, .s (.int .i64 k))]) H =
      bif r == r2 then some (.ext 0, frOf 26 [(0, v), (1, w), (5, .s (.int .i64 l.length)), (14, .s (.bool false))], H) else some (.ret, frOf 26 [(4, .s (.bool false))], H) := by
  intro r
  induction r with
  | nil =>
    intro r2 k hd hd2 hk
    obtain rfl := drop_nil hd hk
    have : r2 = [] := by rw [← hd2]; exact List.drop_of_length_le (by omega)
    subst this
    rw [itW_step]
    simp only [a_gnomonref01_Same,s_gnomonref01_Same_l0_b, am0,am1,am2,am3,am4,am5,am6,am7,bl,i64,reduceIte,reduceCtorEq,Nat.reduceEqDiff,Nat.reduceLT,Nat.reduceLeDiff,Nat.reduceBEq,Nat.reduceAdd,fillA,splice,Nat.reduceMul,al0,al1,al2,al3,al4,al5,al6,al7,al8,al9,al10,al11,al12,al13,al14,al15,al16,al17,al18,al19,al20,al21,al22,al23,al24,al25,al26,al27,al28,al29,al30,al31,al32,al33,al34,amY,op_eqP, iV_len hv, Int.lt_irrefl, trim_same rfl, BEq.rfl]
  | cons x r ih =>
    intro r2 k hd hd2 hk
    obtain ⟨hx, hlt, hd'⟩ := drop_cons hd
    match r2, hd2 with
    | [], hd2 => have := drop_nil hd2 (by omega); omega
    | y :: r2, hd2 =>
      obtain ⟨hy, _, hd2'⟩ := drop_cons hd2
      obtain ⟨a, ha1, ha2⟩ := iV_at hv hw hx
      obtain ⟨b, hb1, hb2⟩ := iV_at hv2 hw2 hy
      have hlt' : (k : Int) < (l.length : Int) := by omega
      have hwk := wrap_pos (n := k) (by omega)
      have hc : ((x :: r) == (y :: r2)) = ((x == y) && (r == r2)) := rfl
      rw [itW_step, hc]
      cases hxy : x == y with
      | true =>
        have hne : (x != y) = false := by rw [bne, hxy]; rfl
        simp only [a_gnomonref01_Same,s_gnomonref01_Same_l0_b, am0,am1,am2,am3,am4,am5,am6,am7,bl,i64,reduceIte,reduceCtorEq,Nat.reduceEqDiff,Nat.reduceLT,Nat.reduceLeDiff,Nat.reduceBEq,Nat.reduceAdd,fillA,splice,Nat.reduceMul,al0,al1,al2,al3,al4,al5,al6,al7,al8,al9,al10,al11,al12,al13,al14,al15,al16,al17,al18,al19,al20,al21,al22,al23,al24,al25,al26,al27,al28,al29,al30,al31,al32,al33,al34,amY,op_eqP, iV_len hv, hlt', ha1, ha2, hb1, hb2, hne, hwk, trim_same rfl]
        exact ih r2 (k + 1) hd' hd2' (by omega)
      | false =>
        have hne : (x != y) = true := by rw [bne, hxy]; rfl
        simp only [a_gnomonref01_Same,s_gnomonref01_Same_l0_b, am0,am1,am2,am3,am4,am5,am6,am7,bl,i64,reduceIte,reduceCtorEq,Nat.reduceEqDiff,Nat.reduceLT,Nat.reduceLeDiff,Nat.reduceBEq,Nat.reduceAdd,fillA,splice,Nat.reduceMul,al0,al1,al2,al3,al4,al5,al6,al7,al8,al9,al10,al11,al12,al13,al14,al15,al16,al17,al18,al19,al20,al21,al22,al23,al24,al25,al26,al27,al28,al29,al30,al31,al32,al33,al34,amY,op_eqP, iV_len hv, hlt', ha1, ha2, hb1, hb2, hne, trim_same rfl]
theorem same_fun {CT : Nat → Option CFun} (hT : CT k_gnomonref01_Same = some (.code s_gnomonref01_Same)) (base : Nat) (H : Heap) (v w : V) (l l2 : List Int) (hv : Rd H v (l.map iV)) (hw : Wide1 v) (hv2 : Rd H w (l2.map iV)) (hw2 : Wide1 w) (hn : l.length < 2 ^ 62) :
    callW CT (.fn k_gnomonref01_Same [] []) [v, w] base H = some (.s (.bool (l == l2)), H) := by
  refine callW_fn (c := s_gnomonref01_Same) hT (by simp [s_gnomonref01_Same]) ?_
  by_cases hll : l.length = l2.length
  · have hl := same_loop (callW CT) base H v w l l2 hv hw hv2 hw2 hn hll.symm l l2 0 rfl rfl (Nat.zero_le _)
    rw [cast0] at hl
    have hne : (((l.length : Nat) : Int) != (l2.length : Nat)) = false := by rw [hll, bne, BEq.rfl]; rfl
    simp only [s_gnomonref01_Same, a_gnomonref01_Same,s_gnomonref01_Same_l0_b, am0,am1,am2,am3,am4,am5,am6,am7,bl,i64,reduceIte,reduceCtorEq,Nat.reduceEqDiff,Nat.reduceLT,Nat.reduceLeDiff,Nat.reduceBEq,Nat.reduceAdd,fillA,splice,Nat.reduceMul,al0,al1,al2,al3,al4,al5,al6,al7,al8,al9,al10,al11,al12,al13,al14,al15,al16,al17,al18,al19,al20,al21,al22,al23,al24,al25,al26,al27,al28,al29,al30,al31,al32,al33,al34,amY,op_eqP, iV_len hv, iV_len hv2, hne, hl]
    cases l == l2 <;> simp only [a_gnomonref01_Same,s_gnomonref01_Same_l0_b, am0,am1,am2,am3,am4,am5,am6,am7,bl,i64,reduceIte,reduceCtorEq,Nat.reduceEqDiff,Nat.reduceLT,Nat.reduceLeDiff,Nat.reduceBEq,Nat.reduceAdd,fillA,splice,Nat.reduceMul,al0,al1,al2,al3,al4,al5,al6,al7,al8,al9,al10,al11,al12,al13,al14,al15,al16,al17,al18,al19,al20,al21,al22,al23,al24,al25,al26,al27,al28,al29,al30,al31,al32,al33,al34,amY,op_eqP]
  · have hne : (((l.length : Nat) : Int) != (l2.length : Nat)) = true := by rw [bne_iff_ne]; omega
    have : (l == l2) = false := by rw [beq_eq_false_iff_ne]; intro e; exact hll (by rw [e])
    simp only [s_gnomonref01_Same, a_gnomonref01_Same,s_gnomonref01_Same_l0_b, am0,am1,am2,am3,am4,am5,am6,am7,bl,i64,reduceIte,reduceCtorEq,Nat.reduceEqDiff,Nat.reduceLT,Nat.reduceLeDiff,Nat.reduceBEq,Nat.reduceAdd,fillA,splice,Nat.reduceMul,al0,al1,al2,al3,al4,al5,al6,al7,al8,al9,al10,al11,al12,al13,al14,al15,al16,al17,al18,al19,al20,al21,al22,al23,al24,al25,al26,al27,al28,al29,al30,al31,al32,al33,al34,amY,op_eqP, iV_len hv, iV_len hv2, hne, this]
end Go.Proofs.YtccallbknpbggaaDoor
