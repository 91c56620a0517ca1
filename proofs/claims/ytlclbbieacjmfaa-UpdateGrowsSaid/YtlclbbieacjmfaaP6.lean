/- Texts of the proof: UpdU8, UpdU9, UpdU10. -/
import Derived.Test.YtlclbbieacjmfaaP0
import Derived.Test.YtlclbbieacjmfaaP1
import Derived.Test.YtlclbbieacjmfaaP2
import Derived.Test.YtlclbbieacjmfaaP3
import Derived.Test.YtlclbbieacjmfaaP4
import Derived.Test.YtlclbbieacjmfaaP5
set_option linter.all false
set_option maxRecDepth 100000
namespace Go.Proofs.Ytlclbbieacjmfaa
open Go.AM
theorem storeL_mono {t t' : List Int} {o : Int} {single : Bool} {P R P' R' : Prop} (ht : t.Nodup) (hs : ∀ x ∈ t, x ∈ t') (hP : P → P') (hR : R → R') (hh : storeL t o single P R) : storeL t' o single P' R' := by
  unfold storeL at hh ⊢
  split at hh
  · exact hh.elim
  · rename_i h0
    have h0' : ¬ t' = [] := fun e => by
      cases t with
      | nil => exact h0 rfl
      | cons x t => have := hs x (by simp); rw [e] at this; cases this
    rw [if_neg h0']
    by_cases ho : o ∈ t
    · rw [if_neg (fun h => h ho)] at hh
      rw [if_neg (fun h => h (hs o ho))]
      split at hh
      · rename_i h1
        rw [if_pos (h1.imp (fun h => Nat.lt_of_lt_of_le h (nodup_le t t' ht hs)) id)]
        exact hh.imp hP hR
      · split
        · exact .inr (hR hh)
        · exact hR hh
    · rw [if_pos ho] at hh
      by_cases ho' : o ∈ t'
      · rw [if_neg (fun h => h ho'), if_pos]
        · exact .inl (hP hh)
        · left
          have h1 := nodup_le (o :: t) t' (List.nodup_cons.2 ⟨ho, ht⟩) (fun x hx => by
            rcases List.mem_cons.1 hx with rfl | hx
            · exact ho'
            · exact hs x hx)
          have h2 : t.length ≠ 0 := fun e => h0 (List.eq_nil_of_length_eq_zero e)
          rw [List.length_cons] at h1
          omega
      · rw [if_pos ho']; exact hP hh
def uniB (b : Bool) (p r : WS) : WS := if b then uniA p r else p
theorem mem_uniB {b : Bool} {p r : WS} (hp : WdP p) (hr : WdP r) {x : Int} (hx : x ∈ el p) : x ∈ el (uniB b p r) := by
  cases b
  · exact hx
  · exact (mem_uniA hp hr).2 (.inl hx)
section
variable {CT : Nat → Option CFun}
theorem cunion (h : TC CT) (b : Bool) {H : Heap} {i j : Nat} {p : WS} (sp : SetP H i j p) {a c : Nat} {r : WS} (sr : SetP H a c r) (hd : a ≠ i ∧ a ≠ j ∧ c ≠ i ∧ c ≠ j) (hl : cnt p + cnt r ≤ 2 ^ 43) :
    ∃ H' w, (if b then callW CT (.fn k_bits_Set_Union [] []) [.ref i 0 0, .ref a 0 0] 0 H = some (w, H') else H' = H) ∧ SetP H' i j (uniB b p r) ∧ KeepB H.length i j H H' ∧ cnt (uniB b p r) ≤ cnt p + cnt r := by
  cases b with
  | true =>
    obtain ⟨B, e, n, k⟩ := union_P h.toTB 0 sp (Nat.zero_le _) (Nat.zero_le _) sr (.inr hd) hl h.union
    exact ⟨B, _, e, n, k, cnt_uniA sp.wd sr.wd⟩
  | false => exact ⟨H, und, rfl, sp, ⟨Nat.le_refl _, fun _ _ _ _ => rfl⟩, Nat.le_add_right _ _⟩
def pickS (pa : WS) (L : List (Bool × WS)) : List WS := L.map fun e => if e.1 then e.2 else pa
set_option maxHeartbeats 1600000 in
theorem grows_step (h : TC CT) (hS : CT k_update_Store = some (.code s_update_Store)) (hC : CT k_update_Call = some (.code s_update_Call)) (hX : CT k_gnomonlaw25_exits = some (.code s_gnomonlaw25_exits)) {A0 : Heap} {o : Int} (ho : o < 2 ^ 63) {single : Bool} {vl vm w21 : V} {L : List XIn} (hn : L.length ≤ 60) (hL : ∀ e ∈ L, XOk e) (hvl : ∀ H, RdW 2 H vl (L.map inR)) (hml : vl.one = true)
    {ia ja ib jb ic jc im jm is js id' jd : Nat} {pa pb pc pm ps pd : WS} (sa : SetP A0 ia ja pa) (sb : SetP A0 ib jb pb) (sc : SetP A0 ic jc pc) (sm : SetP A0 im jm pm) (ss : SetP A0 is js ps) (sd : SetP A0 id' jd pd) (ca : cnt pa ≤ 1000) (cb : cnt pb ≤ 1000) (cc : cnt pc ≤ 1000) (cm : cnt pm ≤ 1000) (cs : cnt ps ≤ 2 ^ 40) (cd : cnt pd ≤ 2 ^ 40)
    (hs : ∀ x, x ∈ el ps ↔ storeL (el pc) o single (x ∈ el pa) (x ∈ el pb)) (hd : ∀ x, x ∈ el pd ↔ ∃ q ∈ pickS pa (L.map outX), x ∈ el q) (n : Nat) (hn1 : n < 8) :
    ∃ B, evC (callW CT) itW 0 s_gnomonlaw25_UpdateGrows_l0 (frOf 156 [(3, .s (.int .i64 o)), (4, .s (.bool single)), (5, vl), (6, vm), (15, .ref ia 0 0), (16, .ref ib 0 0), (17, .ref ic 0 0), (18, .ref im 0 0), (19, .ref is 0 0), (20, .ref id' 0 0), (21, w21), (22, .s (.int .i64 n))]) A0 = some (.nrm, frOf 156 [(3, .s (.int .i64 o)), (4, .s (.bool single)), (5, vl), (6, vm), (15, .ref ia 0 0), (16, .ref ib 0 0), (17, .ref ic 0 0), (18, .ref im 0 0), (19, .ref is 0 0), (20, .ref id' 0 0), (21, w21), (22, .s (.int .i64 (n + 1 : Nat)))], B) ∧ KeepD A0.length [] A0 B := by
  have da := SetW.lt sa
  have db := SetW.lt sb
  have dc := SetW.lt sc
  have dm := SetW.lt sm
  have ds := SetW.lt ss
  have dd := SetW.lt sd
  have hn2 : ((n : Int) < 8) := by omega
  have hwn := wrap_pos (n := n) (by omega)
  obtain ⟨b1, hb1⟩ : ∃ b, (IntKind.i64.wrap (BitVec.ofInt IntKind.i64.bits (n : Int) &&& BitVec.ofInt IntKind.i64.bits 1).toNat != 0) = b := ⟨_, rfl⟩
  obtain ⟨b2, hb2⟩ : ∃ b, (IntKind.i64.wrap (BitVec.ofInt IntKind.i64.bits (n : Int) &&& BitVec.ofInt IntKind.i64.bits 2).toNat != 0) = b := ⟨_, rfl⟩
  obtain ⟨b3, hb3⟩ : ∃ b, (IntKind.i64.wrap (BitVec.ofInt IntKind.i64.bits (n : Int) &&& BitVec.ofInt IntKind.i64.bits 4).toNat != 0) = b := ⟨_, rfl⟩
  obtain ⟨A1, e1, x1, k1, l1⟩ := copy_ex h 0 sa
  obtain ⟨A2, e2, y2, k2, l2⟩ := copy_ex h 0 (k1.s sb)
  obtain ⟨A3, e3, z3, k3, l3⟩ := copy_ex h 0 (k2.s (k1.s sc))
  have k13 : KeepD A0.length [] A0 A3 := (k1.trans k2 k1.1).trans k3 (by omega)
  have x3 := k3.s (k2.s x1)
  have y3 := k3.s y2
  have m3 := k13.s sm
  obtain ⟨A4, w4, u4, x4, k4, c4⟩ := cunion h b1 x3 m3 ⟨by omega, by omega, by omega, by omega⟩ (by omega)
  have k4l := k4.1
  have y4 := k4.s y3 ⟨by omega, by omega, by omega, by omega⟩
  have z4 := k4.s z3 ⟨by omega, by omega, by omega, by omega⟩
  have m4 := k4.s m3 ⟨by omega, by omega, by omega, by omega⟩
  obtain ⟨A5, w5, u5, y5, k5, c5⟩ := cunion h b2 y4 m4 ⟨by omega, by omega, by omega, by omega⟩ (by omega)
  have k5l := k5.1
  have x5 := k5.s x4 ⟨by omega, by omega, by omega, by omega⟩
  have z5 := k5.s z4 ⟨by omega, by omega, by omega, by omega⟩
  have m5 := k5.s m4 ⟨by omega, by omega, by omega, by omega⟩
  obtain ⟨A6, w6, u6, z6, k6, c6⟩ := cunion h b3 z5 m5 ⟨by omega, by omega, by omega, by omega⟩ (by omega)
  have k6l := k6.1
  have x6 := k6.s x5 ⟨by omega, by omega, by omega, by omega⟩
  have y6 := k6.s y5 ⟨by omega, by omega, by omega, by omega⟩
  have k06 : KeepD A0.length [] A0 A6 := ⟨by omega, fun id h1 _ => by
    rw [k6.2 id (by omega) (by omega) (by omega), k5.2 id (by omega) (by omega) (by omega), k4.2 id (by omega) (by omega) (by omega), k13.2 id h1 (by simp)]⟩
  obtain ⟨i7, j7, q7, A7, e7, s7, k7, g7, u7, m7, z7⟩ := store_P h hS x6 (by omega) y6 (by omega) z6 (by omega) o ho single
  have ss7 := (k06.trans k7 k06.1).s ss
  obtain ⟨r8, A8, e8, z8, k8⟩ := in_P h 0 ss7 (by omega) (AtV.set h.toTB s7) (Nat.zero_le _)
  have z8 : r8 = true := (z8.trans (in_iff ss7.wd s7.wd)).2 (fun x hx => by
    rw [z7]
    rw [hs] at hx
    exact storeL_mono (el_nodup sc.wd) (fun x hx => mem_uniB sc.wd sm.wd hx) (fun hx => mem_uniB sa.wd sm.wd hx) (fun hx => mem_uniB sb.wd sm.wd hx) hx)
  subst z8
  have x8 := k8.s (k7.s x6)
  obtain ⟨vx, jx, A9, e9, X, k9⟩ := exits_P h hX (H := A8) (va := vl) (L := L) (by omega) hL (fun H _ => hvl H)
  have x9 := k9.s x8
  have hZl : (zL (uniB b1 pa pm) (L.map outX) jx).length = L.length := by rw [← List.length_map (f := (·.1)), zL_map, X.rlen, List.length_map]
  have cl : ∀ e ∈ L.map outX, cnt e.2 ≤ 2 ^ 20 := fun e he => by
    obtain ⟨x, hx, rfl⟩ := List.mem_map.1 he
    obtain ⟨_, _, q1, q2⟩ := hL x hx
    exact Nat.le_trans (cnt_of q2) (by omega)
  have zok := zL_ok X x9 (by omega) cl
  obtain ⟨i10, j10, A10, e10, s10, k10, _, _, c10⟩ := call_Z h hC (H := A9) (v := vx) (zL (uniB b1 pa pm) (L.map outX) jx) (by omega) (fun H k => by rw [zL_map]; exact (X.acc.d k).rd) zok
  rw [zL_snd _ _ _ X.len] at s10
  have k810 := (k8.trans k9 k8.1).trans k10 (by have := k9.1; have := k8.1; omega)
  have sd10 := (k06.trans (k7.trans k810 k7.1) k06.1).s sd
  obtain ⟨r11, A11, e11, z11, k11⟩ := in_P h 0 sd10 (by omega) (AtV.set h.toTB s10) (Nat.zero_le _)
  have hwd : ∀ q ∈ L.map outX, WdP q.2 := fun q hq => by
    obtain ⟨x, hx, rfl⟩ := List.mem_map.1 hq
    exact of_wd (hL x hx).2.2.2
  have z11 : r11 = true := (z11.trans (in_iff sd10.wd s10.wd)).2 (fun x hx => by
    rw [hd] at hx
    obtain ⟨q, hq, hxq⟩ := hx
    obtain ⟨e, he, rfl⟩ := List.mem_map.1 hq
    refine (mem_uniS _ _ (fun q hq => by
      obtain ⟨e, he, rfl⟩ := List.mem_map.1 hq
      split
      · exact hwd e he
      · exact x9.wd) noP_wd x).2 (.inr ⟨_, List.mem_map.2 ⟨e, he, rfl⟩, ?_⟩)
    split
    · rename_i h1; rw [if_pos h1] at hxq; exact hxq
    · rename_i h1; rw [if_neg h1] at hxq; exact mem_uniB sa.wd sm.wd hxq)
  subst z11
  refine ⟨A11, ?_, k06.trans (k7.trans (k810.trans k11 k810.1) k7.1) k06.1⟩
  cases b1 <;> cases b2 <;> cases b3 <;> (
    simp only [if_true, if_false, Bool.false_eq_true] at u4 u5 u6
    try (subst u4; have u4 : (0 : Nat) = 0 := rfl)
    try (subst u5; have u5 : (0 : Nat) = 0 := rfl)
    try (subst u6; have u6 : (0 : Nat) = 0 := rfl)
    simp only [a_gnomonlaw25_UpdateGrows,s_gnomonlaw25_UpdateGrows_l0_b,s_gnomonlaw25_UpdateGrows_l1_b, am0,am1,am2,am3,am4,am5,am6,am7,bl,i64,reduceIte,reduceCtorEq,Nat.reduceEqDiff,Nat.reduceLT,Nat.reduceLeDiff,Nat.reduceBEq,Nat.reduceAdd,fillA,splice,Nat.reduceMul,al0,al1,al2,al3,al4,al5,al6,al7,al8,al9,al10,al11,al12,al13,al14,al15,al16,al17,al18,al19,al20,al21,al22,al23,al24,al25,al26,al27,al28,al29,al30,al31,al32,al33,al34,amY, hwn, hn2, hb1, hb2, hb3, e1, e2, e3, u4, u5, u6, e7, e8, e9, e10, e11]
    done)
end
end Go.Proofs.Ytlclbbieacjmfaa
set_option maxRecDepth 100000
namespace Go.Proofs.Ytlclbbieacjmfaa
open Go.AM
theorem ExS.put {m : Nat} {H H' : Heap} {v : V} {L : List (Bool × WS)} {js : List Nat} (h : ExS m H v L js) {k : Nat} {e : Bool × WS} {j : Nat} (h1 : L[k]? = some e) (h2 : js[k]? = some j) {q : WS} (hs : SetP H' (j + 1) j q) (hk : KeepB H.length (j + 1) j H H') : ExS m H' v (L.set k (e.1, q)) js := by
  have hkl := (List.getElem?_eq_some_iff.1 h1).1
  have hR : exR (L.set k (e.1, q)) js = exR L js := by
    apply List.ext_getElem?
    intro i
    simp only [exR, List.getElem?_zipWith]
    by_cases hi : k = i
    · subst hi
      rw [List.getElem?_set_self hkl, h1, h2]
      rfl
    · rw [List.getElem?_set_ne hi]
  have hap := h.acc.apart (exR_plain L js) (h.sets k e j h1 h2)
  refine ⟨by rw [List.length_set]; exact h.len, ?_, ?_, h.low, h.inc⟩
  · rw [hR]
    exact h.acc.keep fun id g n ev => hk.2 id (h.acc.lt id g n ev) (hap id g n ev).1 (hap id g n ev).2
  · intro i e' j' e1 e2
    by_cases hi : k = i
    · subst hi
      rw [List.getElem?_set_self hkl] at e1
      rw [h2] at e2
      cases e1
      cases e2
      exact hs
    · rw [List.getElem?_set_ne hi] at e1
      have hne : j' + 2 ≤ j ∨ j + 2 ≤ j' := by
        have hp := List.pairwise_iff_getElem.1 h.inc
        obtain ⟨hil, rfl⟩ := List.getElem?_eq_some_iff.1 e2
        obtain ⟨hjl, rfl⟩ := List.getElem?_eq_some_iff.1 h2
        rcases Nat.lt_or_ge i k with hlt | hge
        · exact .inl (hp i k hil hjl hlt)
        · exact .inr (hp k i hjl hil (by omega))
      exact hk.s (h.sets i e' j' e1 e2) ⟨by omega, by omega, by omega, by omega⟩
theorem ExS.to {m M : Nat} {H H' : Heap} {v : V} {L : List (Bool × WS)} {js : List Nat} (h : ExS m H v L js) (hj : ∀ j ∈ js, j + 1 < M) (hv : ∀ id g n, v = .sl id g 0 n 2 → id < M) (hk : ∀ id, id < M → H'[id]? = H[id]?) : ExS m H' v L js :=
  ⟨h.len, h.acc.keep fun id g n ev => hk id (hv id g n ev), fun i e j h1 h2 => by
    have := hj j (List.mem_of_getElem? h2)
    exact (h.sets i e j h1 h2).keep (hk _ this) (hk _ (by omega)), h.low, h.inc⟩
theorem ExS.b {m : Nat} {H H' : Heap} {v : V} {L : List (Bool × WS)} {js : List Nat} (h : ExS m H v L js) {i j : Nat} {p : WS} (hp : SetP H i j p) (hi : i < m) (hj : j < m) (hk : KeepB H.length i j H H') : ExS m H' v L js := by
  have hap := h.acc.apart (exR_plain L js) hp
  exact ⟨h.len, h.acc.keep fun id g n ev => hk.2 id (h.acc.lt id g n ev) (hap id g n ev).1 (hap id g n ev).2, fun a e b h1 h2 => by
    have := h.low b (List.mem_of_getElem? h2)
    exact hk.s (h.sets a e b h1 h2) ⟨by omega, by omega, by omega, by omega⟩, h.low, h.inc⟩
def Up (Lx Lk : List (Bool × WS)) (k : Nat) : Prop := Lk.length = Lx.length ∧ ∀ (i : Nat) (e : Bool × WS), Lx[i]? = some e → ∃ q, Lk[i]? = some (e.1, q) ∧ WdP q ∧ cnt q ≤ 2 ^ 20 ∧ (∀ x ∈ el e.2, x ∈ el q) ∧ (k ≤ i → q = e.2)
theorem Up.put {Lx Lk : List (Bool × WS)} {k : Nat} (h : Up Lx Lk k) {e : Bool × WS} (he : Lx[k]? = some e) {q : WS} (hw : WdP q) (hc : cnt q ≤ 2 ^ 20) (hs : ∀ x ∈ el e.2, x ∈ el q) : Up Lx (Lk.set k (e.1, q)) (k + 1) := by
  refine ⟨by rw [List.length_set]; exact h.1, fun i e' hi => ?_⟩
  by_cases hik : k = i
  · subst hik
    rw [he] at hi
    cases hi
    exact ⟨q, by rw [List.getElem?_set_self (by rw [h.1]; exact (List.getElem?_eq_some_iff.1 he).1)], hw, hc, hs, fun h => by omega⟩
  · rw [List.getElem?_set_ne hik]
    obtain ⟨q', h1, h2, h3, h4, h5⟩ := h.2 i e' hi
    exact ⟨q', h1, h2, h3, h4, fun hh => h5 (by omega)⟩
section
variable {CT : Nat → Option CFun}
set_option maxHeartbeats 1600000 in
theorem grows_l1 (h : TC CT) {m0 m : Nat} {vl v va : V} {L : List XIn} (hn : L.length ≤ 60) (hL : ∀ e ∈ L, XOk e) (hvl : ∀ H, RdW 2 H vl (L.map inR)) {im jm i21 j21 : Nat} {vd : V} {pm p0 : WS} {js : List Nat} {Lx : List (Bool × WS)} {A0 : Heap} (hm : m = A0.length) (hlx : L.length ≤ Lx.length) (cx : ∀ e ∈ Lx, cnt e.2 ≤ 1000) (sm : SetP A0 im jm pm) (cm : cnt pm ≤ 1000)
    (dm : im < m0 ∧ jm < m0) (d2 : i21 < m0 ∧ j21 < m0) (hmd : im ≠ i21 ∧ im ≠ j21 ∧ jm ≠ i21 ∧ jm ≠ j21) (hmm : m0 ≤ m) (hj : ∀ j ∈ js, j + 1 < m) (hv : ∀ id g n, v = .sl id g 0 n 2 → id < m) :
    ∀ (d k : Nat) (H : Heap) (Lk : List (Bool × WS)) (q : WS), k + d = L.length → ExS m0 H v Lk js → Up Lx Lk k → SetP H i21 j21 q → cnt q ≤ 2000 + k * 300 → (∀ x ∈ el p0, x ∈ el q) → (∀ (i : Nat) (e : XIn), i < k → L[i]? = some e → ∀ x ∈ el (ofP e.2.2 noP), x ∈ el q) → KeepD m0 [i21, j21] A0 H → m ≤ H.length →
    ∃ H2 Lk' q', itW (evC (callW CT) itW 0 s_gnomonlaw25_UpdateGrows_l1) [] m (frOf 156 [(5, vl), (15, va), (18, .ref im 0 0), (20, vd), (21, .ref i21 0 0), (26, v), (27, .s (.int .i64 k))]) H = some (.ext 2, frOf 156 [(5, vl), (15, va), (18, .ref im 0 0), (20, vd), (21, .ref i21 0 0), (26, v), (27, .s (.int .i64 L.length)), (125, .s (.bool false))], H2) ∧ ExS m0 H2 v Lk' js ∧ Up Lx Lk' L.length ∧ SetP H2 i21 j21 q' ∧ cnt q' ≤ 2 ^ 20 ∧ (∀ x ∈ el p0, x ∈ el q') ∧ (∀ (i : Nat) (e : XIn), L[i]? = some e → ∀ x ∈ el (ofP e.2.2 noP), x ∈ el q') ∧ KeepD m0 [i21, j21] A0 H2 := by
  intro d
  have hlen := fun H => (hvl H).len
  simp only [List.length_map] at hlen
  induction d with
  | zero =>
    intro k H Lk q hk hE hU hq hc hp hx hK hl
    have hk' : k = L.length := by omega
    subst hk'
    rw [itW_step]
    simp only [a_gnomonlaw25_UpdateGrows,s_gnomonlaw25_UpdateGrows_l0_b,s_gnomonlaw25_UpdateGrows_l1_b, am0,am1,am2,am3,am4,am5,am6,am7,bl,i64,reduceIte,reduceCtorEq,Nat.reduceEqDiff,Nat.reduceLT,Nat.reduceLeDiff,Nat.reduceBEq,Nat.reduceAdd,fillA,splice,Nat.reduceMul,al0,al1,al2,al3,al4,al5,al6,al7,al8,al9,al10,al11,al12,al13,al14,al15,al16,al17,al18,al19,al20,al21,al22,al23,al24,al25,al26,al27,al28,al29,al30,al31,al32,al33,al34,amY, hlen, Int.lt_irrefl]
    refine ⟨_, Lk, q, rfl, hE.to hj hv (fun id h1 => trim_id _ _ _ h1), hU, hq.trim (by omega) (by omega) _, Nat.le_trans hc (by omega), hp, fun i e he => hx i e (List.getElem?_eq_some_iff.1 he).1 he, hK.trim hmm _⟩
  | succ d ih =>
    intro k H Lk q hk hE hU hq hc hp hx hK hl
    have hkl : k < L.length := by omega
    have hlt : (k : Int) < (L.length : Int) := by omega
    have hwp := wrap_pos (n := k) (by omega)
    obtain ⟨e, hek⟩ : ∃ e, L[k]? = some e := ⟨L[k], List.getElem?_eq_getElem hkl⟩
    have heL := List.mem_of_getElem? hek
    obtain ⟨hu, huw, hul, hux⟩ := hL e heL
    have hrow : (L.map inR)[k]? = some (inR e) := by simp [hek]
    obtain ⟨a, ha1, _, ha3⟩ := (hvl H).at' k _ hrow
    obtain ⟨ex, hex⟩ : ∃ ex, Lx[k]? = some ex := ⟨Lx[k]'(by omega), List.getElem?_eq_getElem _⟩
    obtain ⟨qk, hqk, wqk, cqk, sqk, tqk⟩ := hU.2 k ex hex
    have tqk := tqk (Nat.le_refl _)
    have cqk := cx ex (List.mem_of_getElem? hex)
    rw [← tqk] at cqk
    obtain ⟨j, hjk⟩ : ∃ j, js[k]? = some j := ⟨js[k]'(by rw [hE.len, hU.1]; omega), List.getElem?_eq_getElem _⟩
    have hjm := List.mem_of_getElem? hjk
    have hj0 := hE.low j hjm
    have hj1 := hj j hjm
    have hsk : SetP H (j + 1) j qk := hE.sets k _ j hqk hjk
    obtain ⟨b, hb1, _, hb3⟩ := hE.acc.rd.at' k _ (exR_get hqk hjk)
    obtain ⟨c, hc1, hc2⟩ := hb3 1 _ rfl
    have hc2 : xLoad H false 1 c = some (.ref (j + 1) 0 0) := hc2
    have smH : SetP H im jm pm := hK.setP sm ⟨dm.1, dm.2⟩ ⟨by simp; omega, by simp; omega⟩
    obtain ⟨B, eB, nB, kB⟩ := union_P h.toTB 0 hsk (Nat.zero_le _) (Nat.zero_le _) smH (.inr ⟨by omega, by omega, by omega, by omega⟩) (by omega) h.union
    have cB := cnt_uniA hsk.wd smH.wd
    have kBl := kB.1
    have EB := hE.put hqk hjk nB kB
    have UB := hU.put hex (q := uniA qk pm) (uniA_wd wqk smH.wd) (by omega) (fun x hx => (mem_uniA wqk smH.wd).2 (.inl (sqk x hx)))
    have qB := kB.s hq ⟨by omega, by omega, by omega, by omega⟩
    obtain ⟨a2, ha2, ha2'⟩ := ha3 1 _ rfl
    obtain ⟨d1, hd1, hd1'⟩ := (show ∃ d, xFieldAddr 1 a = some d ∧ ∀ H', xLoad H' false 1 d = some e.2.1 from by
      refine ⟨a2, ha2, fun H' => ?_⟩
      obtain ⟨a', ha1', _, ha3'⟩ := (hvl H').at' k _ hrow
      rw [ha1] at ha1'
      cases ha1'
      obtain ⟨b', hb', hb''⟩ := ha3' 1 _ rfl
      rw [ha2] at hb'
      cases hb'
      exact hb'')
    obtain ⟨C, eC, sC, kC, lC⟩ := of_P h.toTB 0 (H := B) (v := e.2.1) (l := e.2.2) (hu _) huw (by omega) hux (Nat.zero_le _)
    have kC := kC.d []
    have EC := EB.d kC
    have qC := kC.s qB
    have cC : cnt (ofP e.2.2 noP) ≤ 300 := Nat.le_trans (cnt_of hux) hul
    obtain ⟨D, eD, nD, kD⟩ := union_P h.toTB 0 qC (Nat.zero_le _) (Nat.zero_le _) sC (.inr ⟨by omega, by omega, by omega, by omega⟩) (by omega) h.union
    have cD := cnt_uniA qC.wd sC.wd
    have kDl := kD.1
    have ED := EC.b qC d2.1 d2.2 kD
    have hKD : KeepD m0 [i21, j21] A0 D := ⟨by omega, fun id h1 h2 => by
      have h2' := h2
      simp at h2'
      rw [kD.2 id (by omega) h2'.1 h2'.2, kC.2 id (by omega) (by simp), kB.2 id (by omega) (by omega) (by omega), hK.2 id h1 h2]⟩
    obtain ⟨F, hF⟩ : ∃ F, trim m (frOf 156 [(5, vl), (15, va), (18, .ref im 0 0), (20, vd), (21, .ref i21 0 0), (26, v), (27, .s (.int .i64 (k + 1 : Nat)))]) D = F := ⟨_, rfl⟩
    have hFl : m ≤ F.length := by rw [← hF]; exact trim_le (by omega)
    obtain ⟨H2, Lk', q', r1, r2, r3, r4, r5, r6, r7, r8⟩ := ih (k + 1) F (Lk.set k (ex.1, uniA qk pm)) (uniA q (ofP e.2.2 noP)) (by omega) (by rw [← hF]; exact ED.to hj hv (fun id h1 => trim_id _ _ _ h1)) UB (by rw [← hF]; exact nD.trim (by omega) (by omega) _) (by rw [Nat.add_mul]; omega) (fun x hx' => (mem_uniA qC.wd sC.wd).2 (.inl (hp x hx')))
      (fun i e' hi he x hx' => by
        refine (mem_uniA qC.wd sC.wd).2 ?_
        rcases Nat.lt_or_ge i k with hik | hik
        · exact .inl (hx i e' hik he x hx')
        · have : i = k := by omega
          subst this
          rw [hek] at he
          cases he
          exact .inr hx')
      (by rw [← hF]; exact hKD.trim hmm _) hFl
    refine ⟨H2, Lk', q', ?_, r2, r3, r4, r5, r6, r7, r8⟩
    rw [itW_step]
    simp only [a_gnomonlaw25_UpdateGrows,s_gnomonlaw25_UpdateGrows_l0_b,s_gnomonlaw25_UpdateGrows_l1_b, am0,am1,am2,am3,am4,am5,am6,am7,bl,i64,reduceIte,reduceCtorEq,Nat.reduceEqDiff,Nat.reduceLT,Nat.reduceLeDiff,Nat.reduceBEq,Nat.reduceAdd,fillA,splice,Nat.reduceMul,al0,al1,al2,al3,al4,al5,al6,al7,al8,al9,al10,al11,al12,al13,al14,al15,al16,al17,al18,al19,al20,al21,al22,al23,al24,al25,al26,al27,al28,al29,al30,al31,al32,al33,al34,amY, hlen, hlt, ha1, hb1, hc1, hc2, hd1, hd1', eB, eC, eD, hwp, hF, r1]
    done
end
end Go.Proofs.Ytlclbbieacjmfaa
set_option maxRecDepth 100000
namespace Go.Proofs.Ytlclbbieacjmfaa
open Go.AM
section
variable {CT : Nat → Option CFun}
theorem grows_l0 (h : TC CT) (hS : CT k_update_Store = some (.code s_update_Store)) (hC : CT k_update_Call = some (.code s_update_Call)) (hX : CT k_gnomonlaw25_exits = some (.code s_gnomonlaw25_exits)) {A0 : Heap} {o : Int} (ho : o < 2 ^ 63) {single : Bool} {vl vm w21 : V} {L : List XIn} (hn : L.length ≤ 60) (hL : ∀ e ∈ L, XOk e) (hvl : ∀ H, RdW 2 H vl (L.map inR)) (hml : vl.one = true)
    {ia ja ib jb ic jc im jm is js id' jd : Nat} {pa pb pc pm ps pd : WS} (sa : SetP A0 ia ja pa) (sb : SetP A0 ib jb pb) (sc : SetP A0 ic jc pc) (sm : SetP A0 im jm pm) (ss : SetP A0 is js ps) (sd : SetP A0 id' jd pd) (ca : cnt pa ≤ 1000) (cb : cnt pb ≤ 1000) (cc : cnt pc ≤ 1000) (cm : cnt pm ≤ 1000) (cs : cnt ps ≤ 2 ^ 40) (cd : cnt pd ≤ 2 ^ 40)
    (hs : ∀ x, x ∈ el ps ↔ storeL (el pc) o single (x ∈ el pa) (x ∈ el pb)) (hd : ∀ x, x ∈ el pd ↔ ∃ q ∈ pickS pa (L.map outX), x ∈ el q) :
    ∀ (d n : Nat) (H : Heap), n + d = 8 → KeepD A0.length [] A0 H →
    ∃ B, itW (evC (callW CT) itW 0 s_gnomonlaw25_UpdateGrows_l0) [] A0.length (frOf 156 [(3, .s (.int .i64 o)), (4, .s (.bool single)), (5, vl), (6, vm), (15, .ref ia 0 0), (16, .ref ib 0 0), (17, .ref ic 0 0), (18, .ref im 0 0), (19, .ref is 0 0), (20, .ref id' 0 0), (21, w21), (22, .s (.int .i64 n))]) H = some (.ext 0, frOf 156 [(3, .s (.int .i64 o)), (4, .s (.bool single)), (5, vl), (6, vm), (15, .ref ia 0 0), (16, .ref ib 0 0), (17, .ref ic 0 0), (18, .ref im 0 0), (19, .ref is 0 0), (20, .ref id' 0 0), (21, w21), (22, .s (.int .i64 8)), (67, .s (.bool false))], B) ∧ KeepD A0.length [] A0 B := by
  have da := SetW.lt sa
  have db := SetW.lt sb
  have dc := SetW.lt sc
  have dm := SetW.lt sm
  have ds := SetW.lt ss
  have dd := SetW.lt sd
  intro d
  induction d with
  | zero =>
    intro n H hnd hK
    have hn8 : n = 8 := by omega
    subst hn8
    have hf : decide ((((8 : Nat) : Nat) : Int) < 8) = false := rfl
    have h8 : (((8 : Nat) : Nat) : Int) = 8 := rfl
    rw [itW_step, h8]
    rw [h8] at hf
    simp only [a_gnomonlaw25_UpdateGrows,s_gnomonlaw25_UpdateGrows_l0_b,s_gnomonlaw25_UpdateGrows_l1_b, am0,am1,am2,am3,am4,am5,am6,am7,bl,i64,reduceIte,reduceCtorEq,Nat.reduceEqDiff,Nat.reduceLT,Nat.reduceLeDiff,Nat.reduceBEq,Nat.reduceAdd,fillA,splice,Nat.reduceMul,al0,al1,al2,al3,al4,al5,al6,al7,al8,al9,al10,al11,al12,al13,al14,al15,al16,al17,al18,al19,al20,al21,al22,al23,al24,al25,al26,al27,al28,al29,al30,al31,al32,al33,al34,amY, hf]
    exact ⟨_, rfl, hK.trim (Nat.le_refl _) _⟩
  | succ d ih =>
    intro n H hnd hK
    have hKl := hK.1
    obtain ⟨B, e, k⟩ := grows_step h hS hC hX (A0 := H) ho (single := single) (vl := vl) (vm := vm) (w21 := w21) hn hL hvl hml (hK.s sa) (hK.s sb) (hK.s sc) (hK.s sm) (hK.s ss) (hK.s sd) ca cb cc cm cs cd hs hd n (by omega)
    have hKB : KeepD A0.length [] A0 B := hK.trans k hKl
    obtain ⟨C, e2, k2⟩ := ih (n + 1) _ (by omega) (hKB.trim (Nat.le_refl _) (frOf 156 [(3, .s (.int .i64 o)), (4, .s (.bool single)), (5, vl), (6, vm), (15, .ref ia 0 0), (16, .ref ib 0 0), (17, .ref ic 0 0), (18, .ref im 0 0), (19, .ref is 0 0), (20, .ref id' 0 0), (21, w21), (22, .s (.int .i64 (n + 1 : Nat)))]))
    refine ⟨C, ?_, k2⟩
    rw [itW_step, e, stepW_nrm]
    exact e2
theorem pick_wd {pa : WS} (ha : WdP pa) {L : List (Bool × WS)} (hL : ∀ e ∈ L, WdP e.2) : ∀ q ∈ pickS pa L, WdP q := fun q hq => by
  obtain ⟨e, he, rfl⟩ := List.mem_map.1 hq
  split
  · exact hL e he
  · exact ha
set_option maxHeartbeats 3200000 in
theorem grows_law (h : TC CT) (hS : CT k_update_Store = some (.code s_update_Store)) (hC : CT k_update_Call = some (.code s_update_Call)) (hX : CT k_gnomonlaw25_exits = some (.code s_gnomonlaw25_exits)) (hG : CT k_gnomonlaw25_great = some (.code s_gnomonlaw25_great)) (hF : CT k_gnomonlaw25_UpdateGrows = some (.code s_gnomonlaw25_UpdateGrows)) (hwk : ∀ base H, callW CT (.fn k_gnomonlaw25_wakes [] []) [] base H = some (.s (.bool true), H))
    (va : V) (a : List Int) (hva : ∀ H, Rd H va (a.map iV)) (hwa : Wide1 va) (hxa : ∀ x ∈ a, x < 2 ^ 63) (vb : V) (b : List Int) (hvb : ∀ H, Rd H vb (b.map iV)) (hwb : Wide1 vb) (hxb : ∀ x ∈ b, x < 2 ^ 63) (vc : V) (c : List Int) (hvc : ∀ H, Rd H vc (c.map iV)) (hwc : Wide1 vc) (hxc : ∀ x ∈ c, x < 2 ^ 63) (o : Int) (ho : o < 2 ^ 63) (single : Bool)
    (vl : V) (L : List XIn) (hvl : ∀ H, RdW 2 H vl (L.map inR)) (hL : ∀ e ∈ L, (∀ H, Rd H e.2.1 (e.2.2.map iV)) ∧ Wide1 e.2.1 ∧ ∀ x ∈ e.2.2, x < 2 ^ 63)
    (vm : V) (mm : List Int) (hvm : ∀ H, Rd H vm (mm.map iV)) (hwm : Wide1 vm) (hxm : ∀ x ∈ mm, x < 2 ^ 63) :
    ∃ H', callW CT (.fn k_gnomonlaw25_UpdateGrows [] []) [va, vb, vc, .s (.int .i64 o), .s (.bool single), vl, vm] 0 [] = some (.s (.bool true), H') := by
  suffices hall : ∀ A0 : Heap, ∃ H', callW CT (.fn k_gnomonlaw25_UpdateGrows [] []) [va, vb, vc, .s (.int .i64 o), .s (.bool single), vl, vm] 0 A0 = some (.s (.bool true), H') from hall []
  intro A0
  have lm := fun H => iV_len' (hvm H)
  have hlen := fun H => (hvl H).len
  simp only [List.length_map] at hlen
  obtain ⟨bg, eG, hbg⟩ := great_P hG (H := A0) (va := va) (vb := vb) (vc := vc) (vl := vl) (L := L) (iV_len' (hva _)) (iV_len' (hvb _)) (iV_len' (hvc _)) (fun e he => (hL e he).1) (hvl A0)
  cases bg with
  | true =>
    refine ⟨A0, callW_fn (c := s_gnomonlaw25_UpdateGrows) hF (by simp [s_gnomonlaw25_UpdateGrows]) ?_⟩
    simp only [s_gnomonlaw25_UpdateGrows, a_gnomonlaw25_UpdateGrows,s_gnomonlaw25_UpdateGrows_l0_b,s_gnomonlaw25_UpdateGrows_l1_b, am0,am1,am2,am3,am4,am5,am6,am7,bl,i64,reduceIte,reduceCtorEq,Nat.reduceEqDiff,Nat.reduceLT,Nat.reduceLeDiff,Nat.reduceBEq,Nat.reduceAdd,fillA,splice,Nat.reduceMul,al0,al1,al2,al3,al4,al5,al6,al7,al8,al9,al10,al11,al12,al13,al14,al15,al16,al17,al18,al19,al20,al21,al22,al23,al24,al25,al26,al27,al28,al29,al30,al31,al32,al33,al34,amY, eG, hwk]
    done
  | false =>
  by_cases hm : mm.length > 300
  · have gm : decide ((mm.length : Int) > 300) = true := by simp; omega
    refine ⟨A0, callW_fn (c := s_gnomonlaw25_UpdateGrows) hF (by simp [s_gnomonlaw25_UpdateGrows]) ?_⟩
    simp only [s_gnomonlaw25_UpdateGrows, a_gnomonlaw25_UpdateGrows,s_gnomonlaw25_UpdateGrows_l0_b,s_gnomonlaw25_UpdateGrows_l1_b, am0,am1,am2,am3,am4,am5,am6,am7,bl,i64,reduceIte,reduceCtorEq,Nat.reduceEqDiff,Nat.reduceLT,Nat.reduceLeDiff,Nat.reduceBEq,Nat.reduceAdd,fillA,splice,Nat.reduceMul,al0,al1,al2,al3,al4,al5,al6,al7,al8,al9,al10,al11,al12,al13,al14,al15,al16,al17,al18,al19,al20,al21,al22,al23,al24,al25,al26,al27,al28,al29,al30,al31,al32,al33,al34,amY, eG, lm, gm, hwk]
    done
  have gm : decide ((mm.length : Int) > 300) = false := by simp; omega
  obtain ⟨g1, g2, g3, g4, g5⟩ := hbg rfl
  have hXL : ∀ e ∈ L, XOk e := fun e he => ⟨(hL e he).1, (hL e he).2.1, g5 e he, (hL e he).2.2⟩
  obtain ⟨A1, e1, sa, k1, l1⟩ := of_P h.toTB 0 (H := A0) (v := va) (l := a) (hva _) hwa (by omega) hxa (Nat.zero_le _)
  have k1 := k1.d []
  obtain ⟨A2, e2, sb, k2, l2⟩ := of_P h.toTB 0 (H := A1) (v := vb) (l := b) (hvb _) hwb (by omega) hxb (Nat.zero_le _)
  have k2 := k2.d []
  obtain ⟨A3, e3, sc, k3, l3⟩ := of_P h.toTB 0 (H := A2) (v := vc) (l := c) (hvc _) hwc (by omega) hxc (Nat.zero_le _)
  have k3 := k3.d []
  obtain ⟨A4, e4, sm, k4, l4⟩ := of_P h.toTB 0 (H := A3) (v := vm) (l := mm) (hvm _) hwm (by omega) hxm (Nat.zero_le _)
  have k4 := k4.d []
  have ca := Nat.le_trans (cnt_of hxa) g1
  have cb := Nat.le_trans (cnt_of hxb) g2
  have cc := Nat.le_trans (cnt_of hxc) g3
  have cm : cnt (ofP mm noP) ≤ 300 := Nat.le_trans (cnt_of hxm) (by omega)
  have sa := k4.s (k3.s (k2.s sa))
  have sb := k4.s (k3.s sb)
  have sc := k4.s sc
  obtain ⟨is, js, ps, A5, e5, ss, k5, ds1, ds2, cs, hs⟩ := store_P h hS sa (by omega) sb (by omega) sc (by omega) o ho single
  have sa := k5.s sa
  have sb := k5.s sb
  have sc := k5.s sc
  have sm := k5.s sm
  obtain ⟨vx, jx, A6, e6, X, k6⟩ := exits_P h hX (H := A5) (va := vl) (L := L) (by omega) hXL (fun H _ => hvl H)
  have sa := k6.s sa
  have sb := k6.s sb
  have sc := k6.s sc
  have sm := k6.s sm
  have ss := k6.s ss
  have cl : ∀ e ∈ L.map outX, cnt e.2 ≤ 300 := fun e he => by
    obtain ⟨x, hx, rfl⟩ := List.mem_map.1 he
    obtain ⟨_, _, q1, q2⟩ := hXL x hx
    exact Nat.le_trans (cnt_of q2) q1
  have wl : ∀ e ∈ L.map outX, WdP e.2 := fun e he => by
    obtain ⟨x, hx, rfl⟩ := List.mem_map.1 he
    exact of_wd (hXL x hx).2.2.2
  have hZl : (zL (ofP a noP) (L.map outX) jx).length = L.length := by rw [← List.length_map (f := (·.1)), zL_map, X.rlen, List.length_map]
  obtain ⟨i7, j7, A7, e7, sd, k7, d71, d72, c7⟩ := call_Z h hC (H := A6) (v := vx) (zL (ofP a noP) (L.map outX) jx) (by omega) (fun H k => by rw [zL_map]; exact (X.acc.d k).rd) (zL_ok X sa (by omega) (fun e he => Nat.le_trans (cl e he) (by omega)))
  rw [zL_snd _ _ _ X.len] at sd c7
  have sd : SetP A7 i7 j7 (uniS (pickS (ofP a noP) (L.map outX)) noP) := sd
  have c7 : cnt (uniS (pickS (ofP a noP) (L.map outX)) noP) ≤ _ := c7
  have hd : ∀ x, x ∈ el (uniS (pickS (ofP a noP) (L.map outX)) noP) ↔ ∃ q ∈ pickS (ofP a noP) (L.map outX), x ∈ el q := fun x => by
    rw [mem_uniS _ _ (pick_wd sa.wd wl) noP_wd, noP_el]; simp
  have sa := k7.s sa
  have sb := k7.s sb
  have sc := k7.s sc
  have sm := k7.s sm
  have ss := k7.s ss
  have dm := SetW.lt sm
  have dd := SetW.lt sd
  have da := SetW.lt sa
  obtain ⟨i8, j8, A8, A9, w9, e8, e9, s8, k8, d81, d82⟩ := copy_union h sa sb (by omega)
  have c8 := cnt_uniA sa.wd sb.wd
  have sa := k8.s sa
  have sb := k8.s sb
  have sc := k8.s sc
  have sm := k8.s sm
  have ss := k8.s ss
  have sd := k8.s sd
  obtain ⟨r10, A10, e10, z10, k10⟩ := in_P h 0 ss (by omega) (AtV.set h.toTB s8) (Nat.zero_le _)
  have z10 : r10 = true := (z10.trans (in_iff ss.wd s8.wd)).2 (fun x hx => by
    rw [mem_uniA sa.wd sb.wd]
    rw [hs] at hx
    unfold storeL at hx
    split at hx
    · exact hx.elim
    · split at hx
      · exact .inl hx
      · split at hx
        · exact hx
        · exact .inr hx)
  subst z10
  have d8 := SetW.lt s8
  have sa := k10.s sa
  have sb := k10.s sb
  have sc := k10.s sc
  have sm := k10.s sm
  have ss := k10.s ss
  have sd := k10.s sd
  have s8 := k10.s s8
  obtain ⟨A11, e11, k11⟩ := grows_l0 h hS hC hX (A0 := A10) ho (single := single) (vl := vl) (vm := vm) (w21 := .ref i8 0 0) g4 hXL hvl (hvl []).one sa sb sc sm ss sd (by omega) (by omega) (by omega) (by omega) (by omega) (by omega) hs hd 7 1 A10 rfl (KeepD.refl [] A10)
  rw [show (((1 : Nat) : Nat) : Int) = 1 from rfl] at e11
  have k11l := k11.1
  have k10l := k10.1
  have sa := k11.s sa
  have sm := k11.s sm
  have sd := k11.s sd
  have s8 := k11.s s8
  obtain ⟨bm, hbm⟩ : ∃ b, (o.tmod 2 == 0) = b := ⟨_, rfl⟩
  have hRall : (L.map inR).flatten.all V.one = true := by
    rw [List.all_eq_true]
    intro x hx
    obtain ⟨r, hr, hxr⟩ := List.mem_flatten.1 hx
    obtain ⟨e, he, rfl⟩ := List.mem_map.1 hr
    simp only [inR, List.mem_cons, List.not_mem_nil, or_false] at hxr
    rcases hxr with rfl | rfl
    · rfl
    · exact ((hXL e he).1 []).one
  have hRw : ∀ r ∈ L.map inR, r.length = 2 := fun r hr => by obtain ⟨e, _, rfl⟩ := List.mem_map.1 hr; rfl
  obtain ⟨v12, A12, e12, a12, l12, k12⟩ := (AccW.start A11.length 2 A11).append0 (base := 0) (bytes := 32) (Nat.zero_le _) (Nat.le_refl _) hRw (hvl A11).el hRall (by simp; omega)
  rw [List.nil_append] at a12
  have k12 : KeepD A11.length [] A11 A12 := ⟨l12, fun id h1 _ => k12 id h1 (fun g n e => by cases e)⟩
  have hvm1 := (hvm []).one
  obtain ⟨A13, h13⟩ : ∃ B, A12 ++ [Ob.cells 0 [.s (.bool bm), vm]] = B := ⟨_, rfl⟩
  have k13 : KeepD A12.length [] A12 A13 := ⟨by rw [← h13]; simp, fun id h1 _ => by rw [← h13, List.getElem?_append_left h1]⟩
  have hw1 : ∀ r ∈ [inR (bm, vm, mm)], r.length = 2 := by intro r hr; simp at hr; subst hr; rfl
  have hx13 : elems A13 2 (.sl A12.length 0 0 1 2) = some ([inR (bm, vm, mm)].length, [inR (bm, vm, mm)].flatten) := by
    rw [← h13]; exact (RdW.sl (R := [inR (bm, vm, mm)]) (getC_new A12 0 _) hw1).el
  have k13l := k13.1
  obtain ⟨v14, A14, e14, a14, l14, k14⟩ := (a12.d k13).append0 (base := 0) (bytes := 32) (Nat.zero_le _) (by omega) hw1 hx13 (by show ([V.s (.bool bm), vm]).all V.one = true; simp only [List.all_cons, List.all_nil, hvm1, Bool.and_true]; rfl) (by simp; omega)
  have k14 : KeepD A11.length [] A11 A14 := ⟨by omega, fun id h1 _ => by
    rw [k14 id (by omega) (fun g n ev => by
      obtain ⟨_, ⟨_, rfl⟩ | ⟨id', g', rfl, _, hid⟩⟩ := a12
      · cases ev
      · cases ev; omega), k13.2 id (by omega) (by simp), k12.2 id h1 (by simp)]⟩
  have sa := k14.s sa
  have sm := k14.s sm
  have sd := k14.s sd
  have s8 := k14.s s8
  have hmR : L.map inR ++ [inR (bm, vm, mm)] = (L ++ [(bm, vm, mm)]).map inR := by simp
  rw [hmR] at a14
  have hX2 : ∀ e ∈ L ++ [(bm, vm, mm)], XOk e := fun e he => by
    rcases List.mem_append.1 he with he | he
    · exact hXL e he
    · simp at he; subst he; exact ⟨hvm, hwm, by show mm.length ≤ 300; omega, hxm⟩
  obtain ⟨v15, j15, A15, e15, X2, k15⟩ := exits_P h hX (H := A14) (va := v14) (L := L ++ [(bm, vm, mm)]) (by simp; omega) hX2 (fun H k => (a14.d k).rd)
  have sa := k15.s sa
  have sm := k15.s sm
  have sd := k15.s sd
  have s8 := k15.s s8
  have k14l := k14.1
  have cl2 : ∀ e ∈ (L ++ [(bm, vm, mm)]).map outX, cnt e.2 ≤ 1000 := fun e he => by
    obtain ⟨x, hx, rfl⟩ := List.mem_map.1 he
    obtain ⟨_, _, q1, q2⟩ := hX2 x hx
    exact Nat.le_trans (cnt_of q2) (by omega)
  have wl2 : ∀ e ∈ (L ++ [(bm, vm, mm)]).map outX, WdP e.2 := fun e he => by
    obtain ⟨x, hx, rfl⟩ := List.mem_map.1 he
    exact of_wd (hX2 x hx).2.2.2
  obtain ⟨A16, Lk, q16, e16, X3, U3, s16, c16, hq1, hq2, k16⟩ := grows_l1 h (m0 := A14.length) (m := A15.length) (vl := vl) (v := v15) (va := .ref (A0.length + 1) 0 0) (vd := .ref i7 0 0) (L := L) g4 hXL hvl (im := A3.length + 1) (jm := A3.length) (i21 := i8) (j21 := j8) (pm := ofP mm noP) (p0 := uniA (ofP a noP) (ofP b noP)) (js := j15) (Lx := (L ++ [(bm, vm, mm)]).map outX) (A0 := A15) rfl (by simp) cl2 sm (by omega) ⟨by omega, by omega⟩ ⟨by omega, by omega⟩ ⟨by omega, by omega, by omega, by omega⟩ k15.1
    (fun j hj => by
      obtain ⟨i, hi⟩ := List.getElem?_of_mem hj
      have hil := (List.getElem?_eq_some_iff.1 hi).1
      exact (SetW.lt (X2.sets i _ j (List.getElem?_eq_getElem (by rw [← X2.len]; exact hil)) hi)).1)
    X2.acc.lt L.length 0 A15 _ _ (by omega) X2 ⟨rfl, fun i e he => ⟨e.2, he, wl2 e (List.mem_of_getElem? he), Nat.le_trans (cl2 e (List.mem_of_getElem? he)) (by omega), fun x hx => hx, fun _ => rfl⟩⟩ s8 (by omega) (fun x hx => hx) (fun i e hi => by omega) (KeepD.refl _ A15 |>.mono k15.1 (fun _ _ h => h)) (Nat.le_refl _)
  rw [show (((0 : Nat) : Nat) : Int) = 0 from rfl] at e16
  have k16l := k16.1
  have sa := k16.setP sa ⟨by omega, by omega⟩ ⟨by simp; omega, by simp; omega⟩
  have sd := k16.setP sd ⟨by omega, by omega⟩ ⟨by simp; omega, by simp; omega⟩
  have cl3 : ∀ e ∈ Lk, WdP e.2 ∧ cnt e.2 ≤ 2 ^ 20 := fun e he => by
    obtain ⟨i, hi⟩ := List.getElem?_of_mem he
    have hil := (List.getElem?_eq_some_iff.1 hi).1
    obtain ⟨q, h1, h2, h3, _⟩ := U3.2 i _ (List.getElem?_eq_getElem (by rw [← U3.1]; exact hil))
    rw [hi] at h1
    cases h1
    exact ⟨h2, h3⟩
  have hZ3 : (zL (ofP a noP) Lk j15).length = L.length + 1 := by rw [← List.length_map (f := (·.1)), zL_map, X3.rlen, U3.1]; simp
  obtain ⟨i17, j17, A17, e17, s17, k17, _, _, c17⟩ := call_Z h hC (H := A16) (v := v15) (zL (ofP a noP) Lk j15) (by omega) (fun H k => by rw [zL_map]; exact (X3.acc.d k).rd) (zL_ok X3 sa (by omega) (fun e he => (cl3 e he).2))
  rw [zL_snd _ _ _ X3.len] at s17
  have sd17 := k17.s sd
  have s17b := k17.s s16
  have cd : cnt (uniS (pickS (ofP a noP) (L.map outX)) noP) ≤ 2 ^ 40 := Nat.le_trans c7 (by rw [hZl]; omega)
  obtain ⟨r18, A18, e18, z18, k18⟩ := in_P h 0 sd17 (by omega) (AtV.set h.toTB s17) (Nat.zero_le _)
  have hlift : ∀ (i : Nat) (e : XIn), L[i]? = some e → ((L ++ [(bm, vm, mm)]).map outX)[i]? = some (outX e) := fun i e he => by
    rw [List.getElem?_map, List.getElem?_append_left (List.getElem?_eq_some_iff.1 he).1, he]; rfl
  have z18 : r18 = true := (z18.trans (in_iff sd17.wd s17.wd)).2 (fun x hx => by
    have hx := (hd x).1 hx
    obtain ⟨q, hq, hxq⟩ := hx
    obtain ⟨e, he, rfl⟩ := List.mem_map.1 hq
    obtain ⟨e0, he0, rfl⟩ := List.mem_map.1 he
    obtain ⟨i, hi⟩ := List.getElem?_of_mem he0
    obtain ⟨q', h1, _, _, h4, _⟩ := U3.2 i _ (hlift i e0 hi)
    refine (mem_uniS _ _ (fun q hq => by
      obtain ⟨e, he, rfl⟩ := List.mem_map.1 hq
      split
      · exact (cl3 e he).1
      · exact sa.wd) noP_wd x).2 (.inr ⟨_, List.mem_map.2 ⟨_, List.mem_of_getElem? h1, rfl⟩, ?_⟩)
    split
    · rename_i hb; rw [if_pos hb] at hxq; exact h4 x hxq
    · rename_i hb; rw [if_neg hb] at hxq; exact hxq)
  subst z18
  have sd18 := k18.s sd17
  have s18b := k18.s s17b
  obtain ⟨r19, A19, e19, z19, k19⟩ := in_P h 0 sd18 (by omega) (AtV.set h.toTB s18b) (Nat.zero_le _)
  have z19 : r19 = true := (z19.trans (in_iff sd18.wd s18b.wd)).2 (fun x hx => by
    have hx := (hd x).1 hx
    obtain ⟨q, hq, hxq⟩ := hx
    obtain ⟨e, he, rfl⟩ := List.mem_map.1 hq
    obtain ⟨e0, he0, rfl⟩ := List.mem_map.1 he
    obtain ⟨i, hi⟩ := List.getElem?_of_mem he0
    split at hxq
    · exact hq2 i e0 hi x hxq
    · exact hq1 x ((mem_uniA (of_wd hxa) (of_wd hxb)).2 (.inl hxq)))
  subst z19
  refine ⟨A19, callW_fn (c := s_gnomonlaw25_UpdateGrows) hF (by simp [s_gnomonlaw25_UpdateGrows]) ?_⟩
  simp only [nilS] at e12
  have hvmc : vm.cells = [vm] := by cases vm <;> first | rfl | (simp [V.one] at hvm1)
  have hvmo : (vm.cells.length = 1 ∧ vm.cells.all V.one = true) = True := by rw [hvmc]; simp [hvm1]
  have h20 : ((2 : Int) = 0) = False := by simp
  simp only [s_gnomonlaw25_UpdateGrows, a_gnomonlaw25_UpdateGrows,s_gnomonlaw25_UpdateGrows_l0_b,s_gnomonlaw25_UpdateGrows_l1_b, am0,am1,am2,am3,am4,am5,am6,am7,bl,i64,reduceIte,reduceCtorEq,Nat.reduceEqDiff,Nat.reduceLT,Nat.reduceLeDiff,Nat.reduceBEq,Nat.reduceAdd,fillA,splice,Nat.reduceMul,al0,al1,al2,al3,al4,al5,al6,al7,al8,al9,al10,al11,al12,al13,al14,al15,al16,al17,al18,al19,al20,al21,al22,al23,al24,al25,al26,al27,al28,al29,al30,al31,al32,al33,al34,amY, eG, lm, gm, hwk, e1, e2, e3, e4, e5, e6, e7, e8, e9, e10, e11, e12, h20, hvmo, hvmc, hbm, hvm1, h13, e14, e15, e16, e17, e18, e19]
  done
end
end Go.Proofs.Ytlclbbieacjmfaa
