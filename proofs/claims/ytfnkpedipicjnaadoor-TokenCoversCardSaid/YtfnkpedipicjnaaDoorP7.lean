/- Texts of the proof: TokL2, TokL3, TokL4, TokL5. -/
import Derived.Test.YtfnkpedipicjnaaDoorP0
import Derived.Test.YtfnkpedipicjnaaDoorP1
import Derived.Test.YtfnkpedipicjnaaDoorP2
import Derived.Test.YtfnkpedipicjnaaDoorP3
import Derived.Test.YtfnkpedipicjnaaDoorP4
import Derived.Test.YtfnkpedipicjnaaDoorP5
import Derived.Test.YtfnkpedipicjnaaDoorP6
set_option linter.all false
set_option maxRecDepth 100000
namespace Go.Proofs.YtfnkpedipicjnaaDoor
open Go.AM
theorem AccW.look {m : Nat} {F : Heap} {v : V} {R : List (List V)} (h : AccW m 5 F v R) : ∃ id g, ∀ (i : Nat) (r : List V), R[i]? = some r → xIndexAddr 5 v (.s (.int .i64 i)) = some (.ref id g (i * 5)) ∧ ∀ H, KeepD F.length [] F H → xLoad H true 5 (.ref id g (i * 5)) = some (.agg r) ∧ ∀ (o : Nat) (x : V), r[o]? = some x → xLoad H false 1 (.ref id g (i * 5 + o)) = some x := by
  obtain ⟨hR, ⟨rfl, rfl⟩ | ⟨id, g, rfl, hc, hid⟩⟩ := h
  · exact ⟨0, 0, fun i r hr => by simp at hr⟩
  · refine ⟨id, g, fun i r hr => ?_⟩
    have key : ∀ H, KeepD F.length [] F H → ∃ a, xIndexAddr 5 (.sl id g 0 R.length 5) (.s (.int .i64 i)) = some a ∧ xLoad H true 5 a = some (.agg r) ∧ ∀ (o : Nat) (x : V), r[o]? = some x → ∃ b, xFieldAddr o a = some b ∧ xLoad H false 1 b = some x := fun H k => (RdW.sl (k.getC hc (getC_lt hc) (by simp)) hR).at' i r hr
    have hi := (List.getElem?_eq_some_iff.1 hr).1
    have ea : xIndexAddr 5 (.sl id g 0 R.length 5) (.s (.int .i64 i)) = some (.ref id g (i * 5)) := by
      rw [xi_sl, if_pos ⟨by omega, by omega, rfl⟩, Int.toNat_natCast, Nat.zero_add]
    refine ⟨ea, fun H k => ?_⟩
    obtain ⟨a, a1, a2, a3⟩ := key H k
    rw [ea] at a1
    cases a1
    refine ⟨a2, fun o x hx => ?_⟩
    obtain ⟨b, b1, b2⟩ := a3 o x hx
    cases b1
    exact b2
theorem eq5 (a n l c a' n' l' c' : Int) (x x' : ByteArray) : eqLeaves [Leaf.int IntKind.u8, Leaf.str, Leaf.int IntKind.i64, Leaf.int IntKind.i64, Leaf.int IntKind.i64] [.s (.int .u8 a), .s (.string x), .s (.int .i64 n), .s (.int .i64 l), .s (.int .i64 c)] [.s (.int .u8 a'), .s (.string x'), .s (.int .i64 n'), .s (.int .i64 l'), .s (.int .i64 c')] = some (a == a' && (x.data.toList == x'.data.toList && (n == n' && (l == l' && c == c')))) := by
  simp only [eqLeaves, eqLeaf, and_self, if_true, Bool.and_true]
theorem lexR_small {l : List UInt8} (h : l.length ≤ 1048576) : lexR l = match Tok.lex l 1 1 with
    | .done ts => (ts, (0, 0), 0)
    | .bad e a q => ([], (a, q), e) := if_neg (by omega)
section
variable {CT : Nat → Option CFun}
theorem joins_loop {base : Nat} {F : Heap} {v1 v2 v3 : V} {t1 t2 : List Tok.T} {more : Nat} (a1 : AccW 0 5 F v1 (t1.map tV)) (a2 : AccW 0 5 F v2 (t2.map tV)) (a3 : AccW 0 5 F v3 ((t1.dropLast ++ t2.map (Tok.T.down more)).map tV)) (hbase : base ≤ F.length) (h1 : t1 ≠ []) (n1 : t1.length < 2 ^ 50) (n2 : t2.length < 2 ^ 50) (hml : ∀ t ∈ t2, t.line + more < 2 ^ 62) : ∀ (n i : Nat) (H : Heap), i + n = (t1.dropLast ++ t2.map (Tok.T.down more)).length → KeepD F.length [] F H →
    ∃ H', itW (evC (callW CT) itW base s_gnomonlaw03_TokenJoins_l0) [] F.length (frOf 138 [(5, v1), (8, v2), (11, v3), (14, I more), (15, I i)]) H = some (.ext 0, frOf 138 [(5, v1), (8, v2), (11, v3), (14, I more), (15, I (t1.dropLast ++ t2.map (Tok.T.down more)).length), (100, bl false)], H') ∧ KeepD F.length [] F H' := by
  obtain ⟨t3, ht3⟩ : ∃ t3, t1.dropLast ++ t2.map (Tok.T.down more) = t3 := ⟨_, rfl⟩
  have l3 : t3.length = (t1.length - 1) + t2.length := by rw [← ht3]; simp
  rw [ht3] at a3 ⊢
  have e1 := fun {H : Heap} (k : KeepD F.length [] F H) => (a1.d k).rd.len
  have e2 := fun {H : Heap} (k : KeepD F.length [] F H) => (a2.d k).rd.len
  have e3 := fun {H : Heap} (k : KeepD F.length [] F H) => (a3.d k).rd.len
  simp only [List.length_map] at e1 e2 e3
  have hp1 : 0 < t1.length := List.length_pos_iff.2 h1
  obtain ⟨id1, g1, look1⟩ := AccW.look a1
  obtain ⟨id2, g2, look2⟩ := AccW.look a2
  obtain ⟨id3, g3, look3⟩ := AccW.look a3
  intro n
  induction n with
  | zero =>
    intro i H hi hk
    obtain rfl : i = t3.length := by omega
    refine ⟨_, ?_, KeepD.tr hk (frOf 138 [(5, v1), (8, v2), (11, v3), (14, I more), (15, I t3.length), (100, bl false)])⟩
    rw [itW_step]
    simp only [a_gnomonlaw03_TokenJoins,s_gnomonlaw03_TokenJoins_l0_b, am0,am1,am2,am3,am4,am5,am6,am7,bl,i64,reduceIte,reduceCtorEq,Nat.reduceEqDiff,Nat.reduceLT,Nat.reduceLeDiff,Nat.reduceBEq,Nat.reduceAdd,fillA,splice,Nat.reduceMul,al0,al1,al2,al3,al4,al5,al6,al7,al8,al9,al10,al11,al12,al13,al14,al15,al16,al17,al18,al19,al20,al21,al22,al23,al24,al25,al26,al27,al28,al29,al30,al31,al32,al33,al34,amY,op_eqP, I, e3 hk, Int.lt_irrefl]
  | succ n ih =>
    intro i H hi hk
    have hlt : i < t3.length := by omega
    have hlt' : ((i : Int) < (t3.length : Int)) := by omega
    have w := w64_nat (n := i) (by omega)
    have hHl := hk.1
    have hr3 : (t3.map tV)[i]? = some (tV t3[i]) := by simp [hlt]
    obtain ⟨G, hG⟩ : ∃ G, H ++ [Ob.cells 0 (tV t3[i])] = G := ⟨_, rfl⟩
    have lG : G.length = H.length + 1 := by rw [← hG]; simp
    have kG : KeepD F.length [] F G := ⟨by omega, fun x hx _ => by rw [← hG, List.getElem?_append_left (by omega)]; exact hk.2 x hx (by simp)⟩
    have kS : ∀ c, KeepD F.length [] F (G.set H.length (.cells 0 c)) := fun c => ⟨by rw [List.length_set]; exact kG.1, fun x hx _ => by rw [List.getElem?_set_ne (by omega)]; exact kG.2 x hx (by simp)⟩
    have gG : getC G H.length 0 = some (tV t3[i]) := by rw [← hG]; exact getC_new H 0 _
    obtain ⟨x3, y3⟩ := look3 i _ hr3
    have hi1 : IntKind.i64.wrap ((t1.length : Int) - 1) = ((t1.length - 1 : Nat) : Int) := by rw [IntKind.wrap_i64]; omega
    have hGx : H ++ [Ob.cells 0 [.s (.int .u8 t3[i].kind), .s (.string ⟨t3[i].text.toArray⟩), .s (.int .i64 t3[i].n), .s (.int .i64 t3[i].line), .s (.int .i64 t3[i].col)]] = G := hG
    have hbH : base ≤ H.length := by omega
    simp only [tV, I] at gG
    have lS : ∀ c, (G.set H.length (.cells 0 c)).length = G.length := fun c => List.length_set
    have tS : ∀ fr c, trim G.length fr (G.set H.length (.cells 0 c)) = G.set H.length (.cells 0 c) := fun fr c => trim_same (lS c)
    have gS : ∀ c, getC (G.set H.length (.cells 0 c)) H.length 0 = some c := fun c => getC_put gG c
    have sS : ∀ c c', (G.set H.length (.cells 0 c)).set H.length (.cells 0 c') = G.set H.length (.cells 0 c') := fun c c' => List.set_set ..
    have y3' := (y3 H hk).1
    simp only [tV, I] at y3'
    have y3s := fun c => (y3 _ (kS c)).1
    simp only [tV, I] at y3s
    by_cases hc : i < t1.length - 1
    · have hd : decide ((i : Int) < ((t1.length - 1 : Nat) : Int)) = true := by rw [decide_eq_true_iff]; omega
      have hr1 : (t1.map tV)[i]? = some (tV t1[i]) := by simp [show i < t1.length by omega]
      obtain ⟨x1, y1⟩ := look1 i _ hr1
      have y1' := (y1 G kG).1
      simp only [tV, I] at y1'
      have e31 : t3[i] = t1[i] := by simp only [← ht3]; rw [List.getElem_append_left (by simp; omega), List.getElem_dropLast]
      obtain ⟨H', eH, kH⟩ := ih (i + 1) _ (by omega) (KeepD.tr (kS [.s (.int .u8 t1[i].kind), .s (.string ⟨t1[i].text.toArray⟩), .s (.int .i64 t1[i].n), .s (.int .i64 t1[i].line), .s (.int .i64 t1[i].col)]) (frOf 138 [(5, v1), (8, v2), (11, v3), (14, I more), (15, I (i + 1 : Nat))]))
      refine ⟨H', ?_, kH⟩
      simp only [I] at eH
      rw [e31] at y3' y3s hGx
      rw [itW_step]
      simp only [a_gnomonlaw03_TokenJoins,s_gnomonlaw03_TokenJoins_l0_b, am0,am1,am2,am3,am4,am5,am6,am7,bl,i64,reduceIte,reduceCtorEq,Nat.reduceEqDiff,Nat.reduceLT,Nat.reduceLeDiff,Nat.reduceBEq,Nat.reduceAdd,fillA,splice,Nat.reduceMul,al0,al1,al2,al3,al4,al5,al6,al7,al8,al9,al10,al11,al12,al13,al14,al15,al16,al17,al18,al19,al20,al21,al22,al23,al24,al25,al26,al27,al28,al29,al30,al31,al32,al33,al34,amY,op_eqP, I, e3 hk, hlt', x3, y3', hGx, e1 kG, hi1, hd, x1, y1', gG, w, hbH, tS, gS, y3s, eq5, beq_self_eq_true, Bool.and_self, eH]
    · have hd : decide ((i : Int) < ((t1.length - 1 : Nat) : Int)) = false := by rw [decide_eq_false_iff_not]; omega
      obtain ⟨j, hj⟩ : ∃ j, i = t1.length - 1 + j := ⟨i - (t1.length - 1), by omega⟩
      have hj2 : j < t2.length := by omega
      have hr2 : (t2.map tV)[j]? = some (tV t2[j]) := by simp [hj2]
      obtain ⟨x2, y2⟩ := look2 j _ hr2
      have y2' := (y2 G kG).1
      simp only [tV, I] at y2'
      have hi2 : IntKind.i64.wrap ((i : Int) - (t1.length : Int)) = (i : Int) - (t1.length : Int) := by rw [IntKind.wrap_i64]; omega
      have hi3 : IntKind.i64.wrap ((i : Int) - (t1.length : Int) + 1) = (j : Int) := by rw [IntKind.wrap_i64]; omega
      have hm := hml t2[j] (List.getElem_mem hj2)
      have wm : IntKind.i64.wrap (((t2[j].line : Nat) : Int) + (more : Int)) = ((t2[j].line + more : Nat) : Int) := by rw [IntKind.wrap_i64]; omega
      have e32 : t3[i] = (t2[j]).down more := by simp only [← ht3]; rw [List.getElem_append_right (by simp; omega)]; simp only [List.length_dropLast, List.getElem_map]; congr 2; omega
      obtain ⟨H', eH, kH⟩ := ih (i + 1) _ (by omega) (KeepD.tr (kS [.s (.int .u8 t2[j].kind), .s (.string ⟨t2[j].text.toArray⟩), .s (.int .i64 t2[j].n), .s (.int .i64 (t2[j].line + more : Nat)), .s (.int .i64 t2[j].col)]) (frOf 138 [(5, v1), (8, v2), (11, v3), (14, I more), (15, I (i + 1 : Nat))]))
      refine ⟨H', ?_, kH⟩
      simp only [I] at eH
      rw [e32] at y3' y3s hGx
      simp only [Tok.T.down] at y3' y3s hGx
      rw [itW_step]
      simp only [a_gnomonlaw03_TokenJoins,s_gnomonlaw03_TokenJoins_l0_b, am0,am1,am2,am3,am4,am5,am6,am7,bl,i64,reduceIte,reduceCtorEq,Nat.reduceEqDiff,Nat.reduceLT,Nat.reduceLeDiff,Nat.reduceBEq,Nat.reduceAdd,fillA,splice,Nat.reduceMul,al0,al1,al2,al3,al4,al5,al6,al7,al8,al9,al10,al11,al12,al13,al14,al15,al16,al17,al18,al19,al20,al21,al22,al23,al24,al25,al26,al27,al28,al29,al30,al31,al32,al33,al34,amY,op_eqP, I, e3 hk, hlt', x3, y3', hGx, e1 kG, hi1, hi2, hi3, hd, x2, y2', gG, w, hbH, tS, gS, sS, wm, y3s, eq5, beq_self_eq_true, Bool.and_self, eH]
theorem lex_end : ∀ (n : Nat) (l : List UInt8) (ln cl : Nat) (ts : List Tok.T), l.length ≤ n → Tok.lex l ln cl = .done ts → ts ≠ [] := fun n l ln cl ts h e e0 => Tok.lex_done_ne n l ln cl h (by rw [e, e0])
theorem lex_line : ∀ (n : Nat) (l : List UInt8) (ln cl : Nat) (ts : List Tok.T), l.length ≤ n → Tok.lex l ln cl = .done ts → ∀ t ∈ ts, t.line ≤ ln + l.length := by
  intro n
  induction n with
  | zero =>
    intro l ln cl ts h e
    obtain rfl : l = [] := List.eq_nil_of_length_eq_zero (by omega)
    rw [Tok.lex_nil] at e
    cases e; simp
  | succ n ih =>
    intro l ln cl ts h e
    cases l with
    | nil => rw [Tok.lex_nil] at e; cases e; simp
    | cons c l =>
      have hl : l.length ≤ n := by simpa using h
      have hd : ∀ m, (l.drop m).length ≤ n := fun m => by rw [List.length_drop]; omega
      have hd2 : ∀ m, (l.drop m).length ≤ l.length := fun m => by rw [List.length_drop]; omega
      rw [List.length_cons]
      rw [Tok.lex_cons] at e
      split at e
      · split at e
        · exact fun t ht => by have := ih _ _ _ _ hl e t ht; omega
        · exact fun t ht => by have := ih _ _ _ _ hl e t ht; omega
      · split at e
        · exact fun t ht => by have := ih _ _ _ _ (hd _) e t ht; have := hd2 (Tok.far Tok.other l); omega
        · split at e
          · obtain ⟨us, e1, rfl⟩ := Tok.cons_done e
            intro t ht
            rcases List.mem_cons.1 ht with rfl | ht
            · simp only; omega
            · have := ih _ _ _ _ (hd _) e1 t ht; have := hd2 (Tok.far Tok.within l); omega
          · split at e
            · split at e
              · cases e
              · obtain ⟨us, e1, rfl⟩ := Tok.cons_done e
                intro t ht
                rcases List.mem_cons.1 ht with rfl | ht
                · simp only; omega
                · have := ih _ _ _ _ (hd _) e1 t ht; have := hd2 (Tok.far Tok.digit l); omega
            · split at e
              · obtain ⟨us, e1, rfl⟩ := Tok.cons_done e
                intro t ht
                rcases List.mem_cons.1 ht with rfl | ht
                · simp only; omega
                · have := ih _ _ _ _ hl e1 t ht; omega
              · cases e
theorem joins_law (hT : CT k_gnomonlaw03_TokenJoins = some (.code s_gnomonlaw03_TokenJoins)) (hL : CT k_token_Lex = some (.code s_token_Lex)) (T : TL CT) (hx : ∀ base H, callW CT (.fn k_gnomonlaw03_lexes [] []) [] base H = some (bl true, H)) (a b : ByteArray) :
    ∃ H', callW CT (.fn k_gnomonlaw03_TokenJoins [] []) [.s (.string a), .s (.string b)] 0 [] = some (bl true, H') := by
  cases hg : (decide ((a.size : Int) > 2000) || decide ((b.size : Int) > 2000)) with
  | true =>
    refine ⟨[], ?_⟩
    refine callW_fn (c := s_gnomonlaw03_TokenJoins) hT (by simp [s_gnomonlaw03_TokenJoins]) ?_
    simp only [s_gnomonlaw03_TokenJoins, a_gnomonlaw03_TokenJoins,s_gnomonlaw03_TokenJoins_l0_b, am0,am1,am2,am3,am4,am5,am6,am7,bl,i64,reduceIte,reduceCtorEq,Nat.reduceEqDiff,Nat.reduceLT,Nat.reduceLeDiff,Nat.reduceBEq,Nat.reduceAdd,fillA,splice,Nat.reduceMul,al0,al1,al2,al3,al4,al5,al6,al7,al8,al9,al10,al11,al12,al13,al14,al15,al16,al17,al18,al19,al20,al21,al22,al23,al24,al25,al26,al27,al28,al29,al30,al31,al32,al33,al34,amY,op_eqP, hg]
  | false =>
    have ha : a.data.toList.length ≤ 2000 := by
      simp only [Bool.or_eq_false_iff, decide_eq_false_iff_not] at hg
      have h1 := hg.1
      show a.size ≤ 2000
      omega
    have hb : b.data.toList.length ≤ 2000 := by
      simp only [Bool.or_eq_false_iff, decide_eq_false_iff_not] at hg
      have h1 := hg.2
      show b.size ≤ 2000
      omega
    obtain ⟨ab, hab⟩ : ∃ ab, a ++ ⟨#[10]⟩ ++ b = ab := ⟨_, rfl⟩
    have habl : ab.data.toList = a.data.toList ++ 10 :: b.data.toList := by rw [← hab]; simp [ByteArray.data_append]
    have hs1 : (((a.size + (ByteArray.mk #[10]).size : Nat) : Int) > IntKind.i64.max) = False := by
      rw [eq_iff_iff, iff_false, show (ByteArray.mk #[10]).size = 1 from rfl, show IntKind.i64.max = 9223372036854775807 from rfl]
      have : a.size ≤ 2000 := ha
      omega
    have hs2 : ((((a ++ ⟨#[10]⟩ : ByteArray).size + b.size : Nat) : Int) > IntKind.i64.max) = False := by
      rw [eq_iff_iff, iff_false, ByteArray.size_append, show (ByteArray.mk #[10]).size = 1 from rfl, show IntKind.i64.max = 9223372036854775807 from rfl]
      have : a.size ≤ 2000 := ha
      have : b.size ≤ 2000 := hb
      omega
    have r1 := lexR_small (l := a.data.toList) (by omega)
    have r2 := lexR_small (l := b.data.toList) (by omega)
    have r3 := lexR_small (l := ab.data.toList) (by rw [habl, List.length_append, List.length_cons]; omega)
    rw [habl, Tok.lex_join b.data.toList _ _ _ _ (Nat.le_refl _), ← habl] at r3
    obtain ⟨q1, hq1⟩ : ∃ q, lexR a.data.toList = q := ⟨_, rfl⟩
    obtain ⟨q2, hq2⟩ : ∃ q, lexR b.data.toList = q := ⟨_, rfl⟩
    obtain ⟨q3, hq3⟩ : ∃ q, lexR ab.data.toList = q := ⟨_, rfl⟩
    obtain ⟨v1, A, eA, aA, kA⟩ := lex_fun hL T 0 [] (Nat.zero_le _) a q1 hq1
    obtain ⟨B, hB⟩ : ∃ B, A ++ [Ob.cells 0 [I q1.2.1.1, I q1.2.1.2]] = B := ⟨_, rfl⟩
    obtain ⟨v2, C, eC, aC, kC⟩ := lex_fun hL T 0 B (Nat.zero_le _) b q2 hq2
    obtain ⟨D, hD⟩ : ∃ D, C ++ [Ob.cells 0 [I q2.2.1.1, I q2.2.1.2]] = D := ⟨_, rfl⟩
    obtain ⟨v3, E, eE, aE, kE⟩ := lex_fun hL T 0 D (Nat.zero_le _) ab q3 hq3
    obtain ⟨F, hF⟩ : ∃ F, E ++ [Ob.cells 0 [I q3.2.1.1, I q3.2.1.2]] = F := ⟨_, rfl⟩
    have lB : B.length = A.length + 1 := by rw [← hB]; simp
    have lD : D.length = C.length + 1 := by rw [← hD]; simp
    have lF : F.length = E.length + 1 := by rw [← hF]; simp
    have kAB : KeepD A.length [] A B := ⟨by omega, fun id h1 _ => by rw [← hB, List.getElem?_append_left h1]⟩
    have kCD : KeepD C.length [] C D := ⟨by omega, fun id h1 _ => by rw [← hD, List.getElem?_append_left h1]⟩
    have kEF : KeepD E.length [] E F := ⟨by omega, fun id h1 _ => by rw [← hF, List.getElem?_append_left h1]⟩
    have hCl := kC.1
    have hEl := kE.1
    have gB : getC B A.length 0 = some [I q1.2.1.1, I q1.2.1.2] := by rw [← hB]; exact getC_new A 0 _
    have gD : getC D C.length 0 = some [I q2.2.1.1, I q2.2.1.2] := by rw [← hD]; exact getC_new C 0 _
    have gF3 : getC F E.length 0 = some [I q3.2.1.1, I q3.2.1.2] := by rw [← hF]; exact getC_new E 0 _
    have gF2 : getC F C.length 0 = some [I q2.2.1.1, I q2.2.1.2] := kEF.getC (kE.getC gD (by omega) (by simp)) (by omega) (by simp)
    have aF1 : AccW 0 5 F v1 (q1.1.map tV) := ((((aA.d kAB).d kC).d kCD).d kE).d kEF
    have wk : ∀ {m : Nat} {H : Heap} {v : V} {R : List (List V)}, AccW m 5 H v R → AccW 0 5 H v R := fun h => ⟨h.1, h.2.imp id fun ⟨id, g, h1, h2, h3⟩ => ⟨id, g, h1, h2, Nat.zero_le _⟩⟩
    have aF2 : AccW 0 5 F v2 (q2.1.map tV) := wk ((((aC).d kCD).d kE).d kEF)
    have aF3 : AccW 0 5 F v3 (q3.1.map tV) := wk (aE.d kEF)
    have n1 := aF1.rd.len
    have n2 := aF2.rd.len
    have n3 := aF3.rd.len
    rw [List.length_map] at n1 n2 n3
    simp only [I] at eA eC eE hB hD hF gF2 gF3
    cases h1 : Tok.lex a.data.toList 1 1 with
    | bad e p q =>
      have he : e = 30 ∨ e = 31 := (Tok.lex_ahead _ _ (1, 1) _ _ _ (Nat.le_refl _) h1).1
      rw [h1] at r1 r3
      simp only [Tok.Out.then'] at r3
      rw [hq1] at r1
      rw [hq3] at r3
      subst r1 r3
      have ne : ((e : Int) != 0) = true := by rcases he with rfl | rfl <;> rfl
      refine ⟨_, callW_fn (c := s_gnomonlaw03_TokenJoins) hT (r := (bl true, F)) (by simp [s_gnomonlaw03_TokenJoins]) ?_⟩
      simp only [s_gnomonlaw03_TokenJoins, a_gnomonlaw03_TokenJoins,s_gnomonlaw03_TokenJoins_l0_b, am0,am1,am2,am3,am4,am5,am6,am7,bl,i64,reduceIte,reduceCtorEq,Nat.reduceEqDiff,Nat.reduceLT,Nat.reduceLeDiff,Nat.reduceBEq,Nat.reduceAdd,fillA,splice,Nat.reduceMul,al0,al1,al2,al3,al4,al5,al6,al7,al8,al9,al10,al11,al12,al13,al14,al15,al16,al17,al18,al19,al20,al21,al22,al23,al24,al25,al26,al27,al28,al29,al30,al31,al32,al33,al34,amY,op_eqP, hg, eA, hB, Nat.zero_le, eC, hD, hs1, hs2, hab, eE, hF, ne, beq_self_eq_true, hx]
    | done t1 =>
      have h0 := lex_end _ _ _ _ _ (Nat.le_refl _) h1
      have hp1 : 0 < t1.length := List.length_pos_iff.2 h0
      have hl1 := lex_len _ _ _ _ _ (Nat.le_refl _) h1
      obtain ⟨more, hmore⟩ : ∃ more, (t1.getLast?.map Tok.T.line).getD 0 = more := ⟨_, rfl⟩
      have hlast : t1[t1.length - 1].line = more := by
        rw [← hmore, List.getLast?_eq_getElem?, List.getElem?_eq_getElem (by omega)]
        rfl
      have hml : more ≤ 2001 := by
        have := lex_line _ _ _ _ _ (Nat.le_refl _) h1 _ (List.getElem_mem (show t1.length - 1 < t1.length by omega))
        omega
      rw [h1] at r1 r3
      simp only [Tok.Out.then', hmore] at r3
      rw [Nat.add_comm more 1, Tok.lex_down more _ _ 1 1 (Nat.le_refl _)] at r3
      rw [hq1] at r1
      have t1e : q1.1 = t1 := by rw [r1]
      have z1e : (((q1.2.2 : Nat) : Int) != 0) = false := by rw [r1]; rfl
      rw [t1e] at n1 aF1
      obtain ⟨id1, g1, look1⟩ := AccW.look aF1
      have hr1 : (t1.map tV)[t1.length - 1]? = some (tV t1[t1.length - 1]) := by rw [List.getElem?_map, List.getElem?_eq_getElem (by omega)]; rfl
      obtain ⟨x1, y1⟩ := look1 _ _ hr1
      have kF : KeepD F.length [] F F := KeepD.refl [] F
      have y1' := (y1 F kF).2 3 (.s (.int .i64 more)) (by rw [← hlast]; rfl)
      have w1 : IntKind.i64.wrap ((t1.length : Int) - 1) = ((t1.length - 1 : Nat) : Int) := by rw [IntKind.wrap_i64]; omega
      have z1 : ((t1.length : Int) == 0) = false := by rw [beq_eq_false_iff_ne]; omega
      cases h2 : Tok.lex b.data.toList 1 1 with
      | bad e p q =>
        obtain ⟨he, u, _, hu, _, _, hsp⟩ := Tok.lex_ahead _ _ (1, 1) _ _ _ (Nat.le_refl _) h2
        have hpq := spotL_le u (1, 1)
        rw [← hsp] at hpq
        simp only at hpq
        have hul : u.length ≤ 2000 := by rw [hu] at hb; simp at hb; omega
        rw [h2] at r2 r3
        simp only [Tok.Out.down, Tok.Out.app] at r3
        rw [hq2] at r2
        rw [hq3] at r3
        subst r2 r3
        have ne : ((e : Int) != 0) = true := by rcases he with rfl | rfl <;> rfl
        have w2 : IntKind.i64.wrap ((p : Int) + (more : Int)) = ((p + more : Nat) : Int) := by rw [IntKind.wrap_i64]; omega
        refine ⟨_, callW_fn (c := s_gnomonlaw03_TokenJoins) hT (r := (bl true, F)) (by simp [s_gnomonlaw03_TokenJoins]) ?_⟩
        simp only [s_gnomonlaw03_TokenJoins, a_gnomonlaw03_TokenJoins,s_gnomonlaw03_TokenJoins_l0_b, am0,am1,am2,am3,am4,am5,am6,am7,bl,i64,reduceIte,reduceCtorEq,Nat.reduceEqDiff,Nat.reduceLT,Nat.reduceLeDiff,Nat.reduceBEq,Nat.reduceAdd,fillA,splice,Nat.reduceMul,al0,al1,al2,al3,al4,al5,al6,al7,al8,al9,al10,al11,al12,al13,al14,al15,al16,al17,al18,al19,al20,al21,al22,al23,al24,al25,al26,al27,al28,al29,al30,al31,al32,al33,al34,amY,op_eqP, hg, eA, hB, Nat.zero_le, eC, hD, hs1, hs2, hab, eE, hF, z1e, ne, n1, z1, w1, x1, y1', gF2, gF3, w2, xsub_build, spot_eq, beq_self_eq_true, Bool.and_self, hx]
      | done t2 =>
        have hl2 := lex_len _ _ _ _ _ (Nat.le_refl _) h2
        rw [h2] at r2 r3
        simp only [Tok.Out.down, Tok.Out.app] at r3
        rw [hq2] at r2
        rw [hq3] at r3
        have t2e : q2.1 = t2 := by rw [r2]
        have t3e : q3.1 = t1.dropLast ++ t2.map (Tok.T.down more) := by rw [r3]
        have z2e : (((q2.2.2 : Nat) : Int) != 0) = false := by rw [r2]; rfl
        have z3e : (((q3.2.2 : Nat) : Int) != 0) = false := by rw [r3]; rfl
        rw [t2e] at n2 aF2
        rw [t3e] at n3 aF3
        have hlp := joins_loop (CT := CT) (base := 0) aF1 aF2 aF3 (Nat.zero_le _) h0 (by omega) (by omega) (fun t ht => by have := lex_line _ _ _ _ _ (Nat.le_refl _) h2 t ht; omega) _ 0 F (by rw [Nat.zero_add]) kF
        obtain ⟨H', eH, kH⟩ := hlp
        rw [I, I, show ((0 : Nat) : Int) = 0 from rfl] at eH
        have l3 : (t1.dropLast ++ t2.map (Tok.T.down more)).length = t1.length - 1 + t2.length := by simp
        have w2 : IntKind.i64.wrap ((t1.length : Int) + (t2.length : Int)) = ((t1.length + t2.length : Nat) : Int) := by rw [IntKind.wrap_i64]; omega
        have w3 : IntKind.i64.wrap (((t1.length + t2.length : Nat) : Int) - 1) = ((t1.length - 1 + t2.length : Nat) : Int) := by rw [IntKind.wrap_i64]; omega
        rw [l3] at n3 eH
        refine ⟨_, callW_fn (c := s_gnomonlaw03_TokenJoins) hT (r := (bl true, H')) (by simp [s_gnomonlaw03_TokenJoins]) ?_⟩
        simp only [I] at eH
        simp only [s_gnomonlaw03_TokenJoins, a_gnomonlaw03_TokenJoins,s_gnomonlaw03_TokenJoins_l0_b, am0,am1,am2,am3,am4,am5,am6,am7,bl,i64,reduceIte,reduceCtorEq,Nat.reduceEqDiff,Nat.reduceLT,Nat.reduceLeDiff,Nat.reduceBEq,Nat.reduceAdd,fillA,splice,Nat.reduceMul,al0,al1,al2,al3,al4,al5,al6,al7,al8,al9,al10,al11,al12,al13,al14,al15,al16,al17,al18,al19,al20,al21,al22,al23,al24,al25,al26,al27,al28,al29,al30,al31,al32,al33,al34,amY,op_eqP, hg, eA, hB, Nat.zero_le, eC, hD, hs1, hs2, hab, eE, hF, z1e, z2e, z3e, n1, n2, n3, z1, w1, w2, w3, x1, y1', bne_self_eq_false, eH, hx]
end
end Go.Proofs.YtfnkpedipicjnaaDoor
set_option maxRecDepth 100000
namespace Go.Proofs.YtfnkpedipicjnaaDoor
open Go.AM
section
variable {CT : Nat → Option CFun}
theorem lines_loop {base m L : Nat} (hbm : base ≤ m) (hmL : m ≤ L) {b : ByteArray} (hb : b.size ≤ 2 ^ 40) : ∀ (l : List UInt8) (p : Nat) (v : V) (B : List Nat) (H : Heap), b.data.toList.drop p = l → p ≤ b.size → OwnN m H v (B.map fun n : Nat => I n) → B ≠ [] → B.length ≤ p + 1 → L ≤ H.length →
    ∃ v' H', itW (evC (callW CT) itW base s_gnomonlaw03_lines_l0) [] L (frOf 22 [(0, .s (.string b)), (3, v), (4, I p)]) H = some (.ext 0, frOf 22 [(0, .s (.string b)), (3, v'), (4, I b.size), (9, bl false)], H') ∧ OwnN m H' v' ((B ++ Tok.linesF p l).map fun n : Nat => I n) ∧ KeepD m [] H H' := by
  intro l
  induction l with
  | nil =>
    intro p v B H hd hp hv h0 hB hm
    have hin : p = b.size := by
      have := congrArg List.length hd
      rw [List.length_drop, show b.data.toList.length = b.size from rfl] at this
      simp at this
      omega
    subst hin
    refine ⟨v, _, ?_, by simpa [Tok.linesF] using hv.trim_fr (L := L) (fr := frOf 22 [(0, .s (.string b)), (3, v), (4, I b.size), (9, bl false)]) (frOf_mem (s := 3) (by decide) rfl), KeepD.trim (H0 := H) (D := []) (m0 := m) ⟨by omega, fun _ _ _ => rfl⟩ hmL _⟩
    rw [itW_step]
    simp only [a_gnomonlaw03_lines,s_gnomonlaw03_lines_l0_b, am0,am1,am2,am3,am4,am5,am6,am7,bl,i64,reduceIte,reduceCtorEq,Nat.reduceEqDiff,Nat.reduceLT,Nat.reduceLeDiff,Nat.reduceBEq,Nat.reduceAdd,fillA,splice,Nat.reduceMul,al0,al1,al2,al3,al4,al5,al6,al7,al8,al9,al10,al11,al12,al13,al14,al15,al16,al17,al18,al19,al20,al21,al22,al23,al24,al25,al26,al27,al28,al29,al30,al31,al32,al33,al34,amY,op_eqP, I, Int.lt_irrefl]
  | cons c l ih =>
    intro p v B H hd hp hv h0 hB hm
    have hx : b.data.toList[p]? = some c := by have := congrArg (·[0]?) hd; simp only [List.getElem?_drop] at this; exact this
    have hlt : p < b.size := (List.getElem?_eq_some_iff.1 hx).1
    have hd' : b.data.toList.drop (p + 1) = l := by
      have := congrArg (List.drop 1) hd
      simpa [List.drop_drop] using this
    have hlt' : ((p : Int) < (b.size : Int)) := by omega
    have w := w64_nat (n := p) (by omega)
    have ten := ten_m c
    rw [itW_step]
    simp only [Tok.linesF]
    by_cases h10 : c = 10
    · rw [decide_eq_true h10] at ten
      obtain ⟨v1, C, eC, oC, lC, kC⟩ := hv.append (base := base) (bytes := 8) (x := I (p + 1 : Nat)) hbm rfl (by omega) (by simp; omega)
      have kk : KeepD m [] H C := ⟨by omega, fun x hx _ => kC x hx⟩
      obtain ⟨v', H', e, o, k⟩ := ih (p + 1) v1 (B ++ [p + 1]) (Go.AM.trim L (frOf 22 [(0, .s (.string b)), (3, v1), (4, I (p + 1 : Nat))]) C) hd' (by omega) (by simpa using oC.trim_fr (L := L) (fr := frOf 22 [(0, .s (.string b)), (3, v1), (4, I (p + 1 : Nat))]) (frOf_mem (s := 3) (by decide) rfl)) (by simp) (by simp; omega) (trim_le (by omega))
      refine ⟨v', H', ?_, by rw [if_pos h10]; simpa using o, (KeepD.trim kk hmL _).trans k (Nat.le_refl _)⟩
      simp only [I] at e eC
      simp only [a_gnomonlaw03_lines,s_gnomonlaw03_lines_l0_b, am0,am1,am2,am3,am4,am5,am6,am7,bl,i64,reduceIte,reduceCtorEq,Nat.reduceEqDiff,Nat.reduceLT,Nat.reduceLeDiff,Nat.reduceBEq,Nat.reduceAdd,fillA,splice,Nat.reduceMul,al0,al1,al2,al3,al4,al5,al6,al7,al8,al9,al10,al11,al12,al13,al14,al15,al16,al17,al18,al19,al20,al21,al22,al23,al24,al25,al26,al27,al28,al29,al30,al31,al32,al33,al34,amY,op_eqP, I, hlt', hx, w, ten, eC, e]
      trace_state
    · rw [decide_eq_false h10] at ten
      obtain ⟨v', H', e, o, k⟩ := ih (p + 1) v B _ hd' (by omega) (hv.trim_fr (L := L) (fr := frOf 22 [(0, .s (.string b)), (3, v), (4, I (p + 1 : Nat))]) (frOf_mem (s := 3) (by decide) rfl)) h0 (by omega) (trim_le hm)
      refine ⟨v', H', ?_, by rw [if_neg h10]; exact o, (KeepD.trim (H0 := H) (D := []) (m0 := m) ⟨by omega, fun _ _ _ => rfl⟩ hmL _).trans k (Nat.le_refl _)⟩
      simp only [I] at e
      simp only [a_gnomonlaw03_lines,s_gnomonlaw03_lines_l0_b, am0,am1,am2,am3,am4,am5,am6,am7,bl,i64,reduceIte,reduceCtorEq,Nat.reduceEqDiff,Nat.reduceLT,Nat.reduceLeDiff,Nat.reduceBEq,Nat.reduceAdd,fillA,splice,Nat.reduceMul,al0,al1,al2,al3,al4,al5,al6,al7,al8,al9,al10,al11,al12,al13,al14,al15,al16,al17,al18,al19,al20,al21,al22,al23,al24,al25,al26,al27,al28,al29,al30,al31,al32,al33,al34,amY,op_eqP, I, hlt', hx, w, ten, e]
      trace_state
theorem lines_fun (hT : CT k_gnomonlaw03_lines = some (.code s_gnomonlaw03_lines)) (base : Nat) (H : Heap) (hbase : base ≤ H.length) {b : ByteArray} (hb : b.size ≤ 2 ^ 40) :
    ∃ v' H', callW CT (.fn k_gnomonlaw03_lines [] []) [.s (.string b)] base H = some (v', H') ∧ OwnN H.length H' v' ((Tok.lines b.data.toList).map fun n : Nat => I n) ∧ KeepD H.length [] H H' := by
  obtain ⟨A, hA⟩ : ∃ A, H ++ [Ob.cells 0 [V.s (.int .i64 0)]] = A := ⟨_, rfl⟩
  have lA : A.length = H.length + 1 := by rw [← hA]; simp
  have kA : KeepD H.length [] H A := ⟨by omega, fun x hx _ => by rw [← hA, List.getElem?_append_left hx]⟩
  have oA : OwnN H.length A (.sl H.length 0 0 1 1) (([0] : List Nat).map fun n : Nat => I n) := .inr ⟨H.length, 0, [I 0], rfl, by rw [← hA]; exact getC_new H 0 _, Nat.le_refl _, rfl, Nat.le_refl _⟩
  obtain ⟨v', H', e, o, k⟩ := lines_loop (CT := CT) (base := base) (m := H.length) (L := A.length) hbase (by omega) hb b.data.toList 0 (.sl H.length 0 0 1 1) [0] A rfl (Nat.zero_le _) oA (by simp) (by simp) (Nat.le_refl _)
  refine ⟨v', _, callW_fn (c := s_gnomonlaw03_lines) hT (r := (v', H')) (by simp [s_gnomonlaw03_lines]) ?_, o, kA.trans k (Nat.le_refl _)⟩
  rw [I, I, show ((0 : Nat) : Int) = 0 from rfl] at e
  simp only [s_gnomonlaw03_lines, a_gnomonlaw03_lines,s_gnomonlaw03_lines_l0_b, am0,am1,am2,am3,am4,am5,am6,am7,bl,i64,reduceIte,reduceCtorEq,Nat.reduceEqDiff,Nat.reduceLT,Nat.reduceLeDiff,Nat.reduceBEq,Nat.reduceAdd,fillA,splice,Nat.reduceMul,al0,al1,al2,al3,al4,al5,al6,al7,al8,al9,al10,al11,al12,al13,al14,al15,al16,al17,al18,al19,al20,al21,al22,al23,al24,al25,al26,al27,al28,al29,al30,al31,al32,al33,al34,amY,op_eqP, hA, e]
end
end Go.Proofs.YtfnkpedipicjnaaDoor
set_option maxRecDepth 100000
namespace Go.Proofs.YtfnkpedipicjnaaDoor
open Go.AM
theorem cov_ne {l : List UInt8} {p : Nat × Nat} {ts : List Tok.T} (h : Tok.Cov l p ts) : ts ≠ [] := by cases h <;> simp
section
variable {CT : Nat → Option CFun}
theorem gap_loop (base : Nat) {b : ByteArray} (hb : b.size ≤ 2 ^ 40) {H : Heap} {vl vb vi x : V} {from' : Nat} (hf : from' ≤ b.size) : ∀ (n k : Nat) (cm : Bool), k + n = from' → Tok.gap cm ((b.data.toList.drop k).take n) = true →
    ∃ cm', itW (evC (callW CT) itW base s_gnomonlaw03_TokenCovers_l0) [] H.length (frOf 235 [(0, .s (.string b)), (3, vl), (6, vb), (11, vi), (12, x), (13, I from'), (14, bl cm), (15, I k)]) H = some (.ext 2, frOf 235 [(0, .s (.string b)), (3, vl), (6, vb), (11, vi), (12, x), (13, I from'), (14, bl cm'), (15, I from'), (195, bl false)], H) := by
  intro n
  induction n with
  | zero =>
    intro k cm hk hg
    obtain rfl : k = from' := by omega
    refine ⟨cm, ?_⟩
    rw [itW_step]
    simp only [a_gnomonlaw03_TokenCovers,s_gnomonlaw03_TokenCovers_l0_b,s_gnomonlaw03_TokenCovers_l1_b, am0,am1,am2,am3,am4,am5,am6,am7,bl,i64,reduceIte,reduceCtorEq,Nat.reduceEqDiff,Nat.reduceLT,Nat.reduceLeDiff,Nat.reduceBEq,Nat.reduceAdd,fillA,splice,Nat.reduceMul,al0,al1,al2,al3,al4,al5,al6,al7,al8,al9,al10,al11,al12,al13,al14,al15,al16,al17,al18,al19,al20,al21,al22,al23,al24,al25,al26,al27,al28,al29,al30,al31,al32,al33,al34,amY,op_eqP, I, bl, Int.lt_irrefl]
  | succ n ih =>
    intro k cm hk hg
    have hlt : k < b.data.toList.length := by show k < b.size; omega
    obtain ⟨c, hx⟩ : ∃ c, b.data.toList[k]? = some c := ⟨_, List.getElem?_eq_getElem hlt⟩
    have hdr : b.data.toList.drop k = c :: b.data.toList.drop (k + 1) := by
      rw [List.drop_eq_getElem_cons hlt, (List.getElem?_eq_some_iff.1 hx).2]
    rw [hdr, List.take_succ_cons, Tok.gap] at hg
    simp only [Bool.and_eq_true] at hg
    obtain ⟨hg1, hg2⟩ := hg
    obtain ⟨cm', e⟩ := ih (k + 1) _ (by omega) hg2
    refine ⟨cm', ?_⟩
    have hj : ((k : Int) < (from' : Int)) := by omega
    have w := w64_nat (n := k) (by omega)
    have b59 : ((c.toNat : Int) == 59) = decide (c = 59) := by rw [Bool.eq_iff_iff, beq_iff_eq, decide_eq_true_iff, byte_ne]; rfl
    have b10 : ((c.toNat : Int) == 10) = decide (c = 10) := by rw [Bool.eq_iff_iff, beq_iff_eq, decide_eq_true_iff, byte_ne]; rfl
    have d32 : ((c.toNat : Int) != 32) = !(c == 32) := by rw [bne, show ((c.toNat : Int) == 32) = (c == 32) by rw [Bool.eq_iff_iff, beq_iff_eq, beq_iff_eq, byte_ne]; rfl]
    have d9 : ((c.toNat : Int) != 9) = !(c == 9) := by rw [bne, show ((c.toNat : Int) == 9) = (c == 9) by rw [Bool.eq_iff_iff, beq_iff_eq, beq_iff_eq, byte_ne]; rfl]
    have d13 : ((c.toNat : Int) != 13) = !(c == 13) := by rw [bne, show ((c.toNat : Int) == 13) = (c == 13) by rw [Bool.eq_iff_iff, beq_iff_eq, beq_iff_eq, byte_ne]; rfl]
    have d10 : ((c.toNat : Int) != 10) = !(c == 10) := by rw [bne, show ((c.toNat : Int) == 10) = (c == 10) by rw [Bool.eq_iff_iff, beq_iff_eq, beq_iff_eq, byte_ne]; rfl]
    rw [itW_step]
    by_cases h59 : c = 59
    · have h10 : ¬ c = 10 := by rw [h59]; decide
      have q59 := decide_eq_true h59
      have q10 := decide_eq_false h10
      simp only [if_pos h59, if_neg h10, I, bl] at e
      simp only [a_gnomonlaw03_TokenCovers,s_gnomonlaw03_TokenCovers_l0_b,s_gnomonlaw03_TokenCovers_l1_b, am0,am1,am2,am3,am4,am5,am6,am7,bl,i64,reduceIte,reduceCtorEq,Nat.reduceEqDiff,Nat.reduceLT,Nat.reduceLeDiff,Nat.reduceBEq,Nat.reduceAdd,fillA,splice,Nat.reduceMul,al0,al1,al2,al3,al4,al5,al6,al7,al8,al9,al10,al11,al12,al13,al14,al15,al16,al17,al18,al19,al20,al21,al22,al23,al24,al25,al26,al27,al28,al29,al30,al31,al32,al33,al34,amY,op_eqP, I, bl, hj, hx, w, b59, q59, b10, q10, e]
    · have q59 := decide_eq_false h59
      by_cases h10 : c = 10
      · have q10 := decide_eq_true h10
        have r10 : (c == 10) = true := by simpa using h10
        simp only [if_neg h59, if_pos h10, I, bl] at e
        simp only [a_gnomonlaw03_TokenCovers,s_gnomonlaw03_TokenCovers_l0_b,s_gnomonlaw03_TokenCovers_l1_b, am0,am1,am2,am3,am4,am5,am6,am7,bl,i64,reduceIte,reduceCtorEq,Nat.reduceEqDiff,Nat.reduceLT,Nat.reduceLeDiff,Nat.reduceBEq,Nat.reduceAdd,fillA,splice,Nat.reduceMul,al0,al1,al2,al3,al4,al5,al6,al7,al8,al9,al10,al11,al12,al13,al14,al15,al16,al17,al18,al19,al20,al21,al22,al23,al24,al25,al26,al27,al28,al29,al30,al31,al32,al33,al34,amY,op_eqP, I, bl, hj, hx, w, b59, q59, b10, q10, d32, d9, d13, d10, r10, e]
      · have q10 := decide_eq_false h10
        have r10 : (c == 10) = false := by simpa using h10
        simp only [if_neg h59, if_neg h10, I, bl] at e hg1
        cases cm with
        | true =>
          simp only [a_gnomonlaw03_TokenCovers,s_gnomonlaw03_TokenCovers_l0_b,s_gnomonlaw03_TokenCovers_l1_b, am0,am1,am2,am3,am4,am5,am6,am7,bl,i64,reduceIte,reduceCtorEq,Nat.reduceEqDiff,Nat.reduceLT,Nat.reduceLeDiff,Nat.reduceBEq,Nat.reduceAdd,fillA,splice,Nat.reduceMul,al0,al1,al2,al3,al4,al5,al6,al7,al8,al9,al10,al11,al12,al13,al14,al15,al16,al17,al18,al19,al20,al21,al22,al23,al24,al25,al26,al27,al28,al29,al30,al31,al32,al33,al34,amY,op_eqP, I, bl, hj, hx, w, b59, q59, b10, q10, d32, d9, d13, d10, r10, e]
        | false =>
          rw [Bool.false_or] at hg1
          unfold Tok.blank at hg1
          rw [r10, Bool.or_false] at hg1
          have hz : (!(c == 32) && !(c == 9) && !(c == 13)) = false := by
            rw [← Bool.not_or, ← Bool.not_or, hg1]; rfl
          simp only [a_gnomonlaw03_TokenCovers,s_gnomonlaw03_TokenCovers_l0_b,s_gnomonlaw03_TokenCovers_l1_b, am0,am1,am2,am3,am4,am5,am6,am7,bl,i64,reduceIte,reduceCtorEq,Nat.reduceEqDiff,Nat.reduceLT,Nat.reduceLeDiff,Nat.reduceBEq,Nat.reduceAdd,fillA,splice,Nat.reduceMul,al0,al1,al2,al3,al4,al5,al6,al7,al8,al9,al10,al11,al12,al13,al14,al15,al16,al17,al18,al19,al20,al21,al22,al23,al24,al25,al26,al27,al28,al29,al30,al31,al32,al33,al34,amY,op_eqP, I, bl, hj, hx, w, b59, q59, b10, q10, d32, d9, d13, d10, r10, hz, e]
theorem covers_loop {base : Nat} {b : ByteArray} (hb : b.size ≤ 2 ^ 40) {F : Heap} {vl vb : V} {ts : List Tok.T} (a3 : AccW 0 5 F vl (ts.map tV)) (hbase : base ≤ F.length) {mo : Nat} (hbg : OwnN mo F vb ((Tok.lines b.data.toList).map fun n : Nat => I n)) (hn : ts.length < 2 ^ 50) (hln : (Tok.lines b.data.toList).length < 2 ^ 50) : ∀ (us : List Tok.T) (i behind : Nat) (H : Heap), i + us.length = ts.length → ts.drop i = us → behind ≤ b.size → Tok.Cov (b.data.toList.drop behind) (Tok.spotL (b.data.toList.take behind) (1, 1)) us → KeepD F.length [] F H →
    ∃ H', itW (evC (callW CT) itW base s_gnomonlaw03_TokenCovers_l1) [] F.length (frOf 235 [(0, .s (.string b)), (3, vl), (6, vb), (10, I behind), (11, I i)]) H = some (.ext 0, frOf 235 [(0, .s (.string b)), (3, vl), (6, vb), (10, I b.size), (11, I ts.length), (106, bl false)], H') ∧ KeepD F.length [] F H' := by
  have e3 := fun {H : Heap} (k : KeepD F.length [] F H) => (a3.d k).rd.len
  have eb := fun {H : Heap} (k : KeepD F.length [] F H) => (k.o hbg).rd.len
  simp only [List.length_map] at e3 eb
  obtain ⟨id3, g3, look3⟩ := AccW.look a3
  have round : ∀ (t : Tok.T) (g : List UInt8) (i behind : Nat) (H : Heap), ts[i]? = some t → (t.kind = 4 ↔ i + 1 = ts.length) → (t.text = [] ↔ i + 1 = ts.length) → behind + g.length + t.text.length ≤ b.size → (b.data.toList.drop behind).take g.length = g → (b.data.toList.drop (behind + g.length)).take t.text.length = t.text → Tok.gap false g = true → (t.line, t.col) = Tok.spotL g (Tok.spotL (b.data.toList.take behind) (1, 1)) → KeepD F.length [] F H →
      ∃ H', itW (evC (callW CT) itW base s_gnomonlaw03_TokenCovers_l1) [] F.length (frOf 235 [(0, .s (.string b)), (3, vl), (6, vb), (10, I behind), (11, I i)]) H = itW (evC (callW CT) itW base s_gnomonlaw03_TokenCovers_l1) [] F.length (frOf 235 [(0, .s (.string b)), (3, vl), (6, vb), (10, I (behind + g.length + t.text.length : Nat)), (11, I (i + 1 : Nat))]) H' ∧ KeepD F.length [] F H' := by
    intro t g i behind H hti h4 h0 hsz hg htx hgap hsp hk
    have hi : i < ts.length := (List.getElem?_eq_some_iff.1 hti).1
    have hlt' : ((i : Int) < (ts.length : Int)) := by omega
    have w := w64_nat (n := i) (by omega)
    have hHl := hk.1
    obtain ⟨from', hfrom⟩ : ∃ f, behind + g.length = f := ⟨_, rfl⟩
    rw [hfrom] at hsz htx
    have hspf : (t.line, t.col) = Tok.spotL (b.data.toList.take from') (1, 1) := by
      rw [hsp, ← Tok.spotL_app, ← hfrom, List.take_add, hg]
    obtain ⟨y, hy, hyc, hl1, hc1, hll⟩ := Tok.spot_at (b.data.toList.take from') (b.data.toList.drop from')
    rw [List.take_append_drop, ← hspf] at hy hll
    rw [← hspf] at hyc hl1 hc1
    simp only at hy hyc hl1 hc1 hll
    have hfl : (b.data.toList.take from').length = from' := by rw [List.length_take, Nat.min_eq_left (by show from' ≤ b.size; omega)]
    rw [hfl] at hyc
    obtain ⟨G, hG⟩ : ∃ G, H ++ [Ob.cells 0 (tV t)] = G := ⟨_, rfl⟩
    have lG : G.length = H.length + 1 := by rw [← hG]; simp
    have kG : KeepD F.length [] F G := ⟨by omega, fun x hx _ => by rw [← hG, List.getElem?_append_left (by omega)]; exact hk.2 x hx (by simp)⟩
    have gG : getC G H.length 0 = some (tV t) := by rw [← hG]; exact getC_new H 0 _
    have hr3 : (ts.map tV)[i]? = some (tV t) := by rw [List.getElem?_map, hti]; rfl
    obtain ⟨x3, y3⟩ := look3 i _ hr3
    have y3' := (y3 H hk).1
    have hGx : H ++ [Ob.cells 0 [.s (.int .u8 t.kind), .s (.string ⟨t.text.toArray⟩), .s (.int .i64 t.n), .s (.int .i64 t.line), .s (.int .i64 t.col)]] = G := hG
    simp only [tV, I] at y3' gG
    have hbH : base ≤ H.length := by omega
    have hyb : ((Tok.lines b.data.toList).map fun n : Nat => I n)[t.line - 1]? = some (I y) := by rw [List.getElem?_map, hy]; rfl
    obtain ⟨a, a1, a2⟩ := Rd.at' ((kG.o hbg).rd) (kG.o hbg).wide hyb
    have hgd : ((b.data.toList.drop behind).take (from' - behind)) = g := by rw [← hfrom, Nat.add_sub_cancel_left]; exact hg
    obtain ⟨cm', eg⟩ := gap_loop (CT := CT) base hb (H := G) (vl := vl) (vb := vb) (vi := I i) (x := .ref H.length 0 0) (from' := from') (by omega) (from' - behind) behind false (by omega) (by rw [hgd]; exact hgap)
    have w1 : IntKind.i64.wrap ((t.line : Int) - 1) = ((t.line - 1 : Nat) : Int) := by rw [IntKind.wrap_i64]; omega
    have dl : decide ((t.line : Int) < 1) = false := by rw [decide_eq_false_iff_not]; omega
    have dg : decide ((t.line : Int) > ((Tok.lines b.data.toList).length : Int)) = false := by rw [decide_eq_false_iff_not]; omega
    have dc : decide ((t.col : Int) < 1) = false := by rw [decide_eq_false_iff_not]; omega
    have wy : IntKind.i64.wrap ((y : Int) + (t.col : Int)) = ((y + t.col : Nat) : Int) := by rw [IntKind.wrap_i64]; omega
    have wf : IntKind.i64.wrap (((y + t.col : Nat) : Int) - 1) = (from' : Int) := by rw [IntKind.wrap_i64]; omega
    have df : decide ((from' : Int) < (behind : Int)) = false := by rw [decide_eq_false_iff_not]; omega
    have wt : IntKind.i64.wrap ((from' : Int) + (t.text.length : Int)) = ((from' + t.text.length : Nat) : Int) := by rw [IntKind.wrap_i64]; omega
    have dt : decide (((from' + t.text.length : Nat) : Int) > (b.size : Int)) = false := by rw [decide_eq_false_iff_not]; omega
    have hsz2 : (ByteArray.mk t.text.toArray).size = t.text.length := List.size_toArray ..
    have hle : (0 ≤ (from' : Int) ∧ (from' : Int) ≤ ((from' + t.text.length : Nat) : Int) ∧ ((from' + t.text.length : Nat) : Int) ≤ (b.size : Int)) := by omega
    have hex := extract_eq b from' t.text.length
    rw [htx] at hex
    have wl : IntKind.i64.wrap ((ts.length : Int) - 1) = ((ts.length - 1 : Nat) : Int) := by rw [IntKind.wrap_i64]; omega
    have q1 : ((t.kind : Int) == 4) = decide (i + 1 = ts.length) := by rw [Bool.eq_iff_iff, beq_iff_eq, decide_eq_true_iff, ← h4]; omega
    have q2 : ((i : Int) == ((ts.length - 1 : Nat) : Int)) = decide (i + 1 = ts.length) := by rw [Bool.eq_iff_iff, beq_iff_eq, decide_eq_true_iff]; omega
    have q3 : ((t.text.length : Int) == 0) = decide (i + 1 = ts.length) := by
      rw [Bool.eq_iff_iff, beq_iff_eq, decide_eq_true_iff, ← h0, ← List.length_eq_zero_iff]; omega
    have kT := KeepD.tr kG (frOf 235 [(0, .s (.string b)), (3, vl), (6, vb), (10, I (from' + t.text.length : Nat)), (11, I (i + 1 : Nat))])
    rw [hfrom]
    refine ⟨_, ?_, kT⟩
    rw [itW_step]
    simp only [I, bl] at eg hyb a2
    simp only [a_gnomonlaw03_TokenCovers,s_gnomonlaw03_TokenCovers_l0_b,s_gnomonlaw03_TokenCovers_l1_b, am0,am1,am2,am3,am4,am5,am6,am7,bl,i64,reduceIte,reduceCtorEq,Nat.reduceEqDiff,Nat.reduceLT,Nat.reduceLeDiff,Nat.reduceBEq,Nat.reduceAdd,fillA,splice,Nat.reduceMul,al0,al1,al2,al3,al4,al5,al6,al7,al8,al9,al10,al11,al12,al13,al14,al15,al16,al17,al18,al19,al20,al21,al22,al23,al24,al25,al26,al27,al28,al29,al30,al31,al32,al33,al34,amY,op_eqP, I, bl, e3 hk, hlt', x3, y3', hGx, hbH, gG, eb kG, dl, dg, dc, w1, a1, a2, wy, wf, df, hsz2, wt, dt, xsub_str, hle, hex, wl, e3 kG, q1, q2, q3, bne_self_eq_false, beq_self_eq_true, eg, w]
  intro us
  induction us with
  | nil => intro i behind H _ _ _ hcov; exact absurd rfl (cov_ne hcov)
  | cons t us ih =>
    intro i behind H hi hd hbs hcov hk
    have hti : ts[i]? = some t := by have := congrArg (·[0]?) hd; simp only [List.getElem?_drop] at this; exact this
    have hd' : ts.drop (i + 1) = us := by
      have := congrArg (List.drop 1) hd
      simpa [List.drop_drop] using this
    rw [List.length_cons] at hi
    obtain ⟨rest, hrest⟩ : ∃ rest, b.data.toList.drop behind = rest := ⟨_, rfl⟩
    obtain ⟨p, hp⟩ : ∃ p, Tok.spotL (b.data.toList.take behind) (1, 1) = p := ⟨_, rfl⟩
    have hrl : rest.length = b.size - behind := by rw [← hrest, List.length_drop]; rfl
    rw [hrest, hp] at hcov
    cases hcov with
    | last _ _ hgap =>
      rw [List.length_nil] at hi
      obtain ⟨H', e, k⟩ := round _ rest i behind H hti (by simp; omega) (by simp; omega) (by simp only [List.length_nil]; omega) (by rw [hrest, List.take_length]) (by simp) hgap (by rw [hp]) hk
      refine ⟨_, ?_, KeepD.tr k (frOf 235 [(0, .s (.string b)), (3, vl), (6, vb), (10, I b.size), (11, I ts.length), (106, bl false)])⟩
      rw [e]
      simp only [List.length_nil, Nat.add_zero]
      rw [show behind + rest.length = b.size by omega, show i + 1 = ts.length by omega, itW_step]
      simp only [a_gnomonlaw03_TokenCovers,s_gnomonlaw03_TokenCovers_l0_b,s_gnomonlaw03_TokenCovers_l1_b, am0,am1,am2,am3,am4,am5,am6,am7,bl,i64,reduceIte,reduceCtorEq,Nat.reduceEqDiff,Nat.reduceLT,Nat.reduceLeDiff,Nat.reduceBEq,Nat.reduceAdd,fillA,splice,Nat.reduceMul,al0,al1,al2,al3,al4,al5,al6,al7,al8,al9,al10,al11,al12,al13,al14,al15,al16,al17,al18,al19,al20,al21,al22,al23,al24,al25,al26,al27,al28,al29,al30,al31,al32,al33,al34,amY,op_eqP, I, bl, e3 k, Int.lt_irrefl]
    | word g r _ _ _ hgap hsp h4 h0 hr =>
      have hus : us ≠ [] := by rintro rfl; cases hr
      have hup : 0 < us.length := List.length_pos_iff.2 hus
      have hgl : g.length + (t.text.length + r.length) = b.size - behind := by rw [← hrl]; simp
      have e1 : (b.data.toList.drop behind).take g.length = g := by rw [hrest, List.take_left' rfl]
      have e2 : b.data.toList.drop (behind + g.length) = t.text ++ r := by rw [← List.drop_drop, hrest, List.drop_left' rfl]
      have e4 : (b.data.toList.drop (behind + g.length)).take t.text.length = t.text := by rw [e2, List.take_left' rfl]
      obtain ⟨H1, e, k⟩ := round t g i behind H hti ⟨fun h => absurd h h4, fun h => by omega⟩ ⟨fun h => absurd h h0, fun h => by omega⟩ (by omega) e1 e4 hgap (by rw [hp]; exact hsp) hk
      obtain ⟨H', e', k'⟩ := ih (i + 1) (behind + g.length + t.text.length) H1 (by omega) hd' (by omega) (by
        rw [← List.drop_drop, e2, List.drop_left' rfl, List.take_add, List.take_add, Tok.spotL_app, Tok.spotL_app, hp, e1, e4]
        exact hr) k
      exact ⟨H', by rw [e, e'], k'⟩
end
end Go.Proofs.YtfnkpedipicjnaaDoor
set_option maxRecDepth 100000
namespace Go.Proofs.YtfnkpedipicjnaaDoor
open Go.AM
theorem linesF_len : ∀ (l : List UInt8) (i : Nat), (Tok.linesF i l).length ≤ l.length
  | [], _ => Nat.le_refl _
  | c :: l, i => by
    have := linesF_len l (i + 1)
    simp only [Tok.linesF]
    split
    · simp only [List.length_cons]; omega
    · simp only [List.length_cons]; omega
theorem lines_len (l : List UInt8) : (Tok.lines l).length ≤ l.length + 1 := by
  unfold Tok.lines
  rw [List.length_cons]
  have := linesF_len l 0
  omega
section
variable {CT : Nat → Option CFun}
theorem covers_law (hT : CT k_gnomonlaw03_TokenCovers = some (.code s_gnomonlaw03_TokenCovers)) (hL : CT k_token_Lex = some (.code s_token_Lex)) (T : TL CT) (hLn : CT k_gnomonlaw03_lines = some (.code s_gnomonlaw03_lines)) (hx : ∀ base H, callW CT (.fn k_gnomonlaw03_lexes [] []) [] base H = some (bl true, H)) (b : ByteArray) :
    ∃ H', callW CT (.fn k_gnomonlaw03_TokenCovers [] []) [.s (.string b)] 0 [] = some (bl true, H') := by
  by_cases hsz : 5000 < b.size
  · have hg : decide ((b.size : Int) > 5000) = true := by rw [decide_eq_true_iff]; omega
    refine ⟨[], ?_⟩
    refine callW_fn (c := s_gnomonlaw03_TokenCovers) hT (by simp [s_gnomonlaw03_TokenCovers]) ?_
    simp only [s_gnomonlaw03_TokenCovers, a_gnomonlaw03_TokenCovers,s_gnomonlaw03_TokenCovers_l0_b,s_gnomonlaw03_TokenCovers_l1_b, am0,am1,am2,am3,am4,am5,am6,am7,bl,i64,reduceIte,reduceCtorEq,Nat.reduceEqDiff,Nat.reduceLT,Nat.reduceLeDiff,Nat.reduceBEq,Nat.reduceAdd,fillA,splice,Nat.reduceMul,al0,al1,al2,al3,al4,al5,al6,al7,al8,al9,al10,al11,al12,al13,al14,al15,al16,al17,al18,al19,al20,al21,al22,al23,al24,al25,al26,al27,al28,al29,al30,al31,al32,al33,al34,amY,op_eqP, hg]
  · have hg : decide ((b.size : Int) > 5000) = false := by rw [decide_eq_false_iff_not]; omega
    have hbl : b.data.toList.length ≤ 5000 := by show b.size ≤ 5000; omega
    have r1 := lexR_small (l := b.data.toList) (by omega)
    obtain ⟨q1, hq1⟩ : ∃ q, lexR b.data.toList = q := ⟨_, rfl⟩
    obtain ⟨v1, A, eA, aA, kA⟩ := lex_fun hL T 0 [] (Nat.zero_le _) b q1 hq1
    obtain ⟨B, hB⟩ : ∃ B, A ++ [Ob.cells 0 [I q1.2.1.1, I q1.2.1.2]] = B := ⟨_, rfl⟩
    have lB : B.length = A.length + 1 := by rw [← hB]; simp
    have kAB : KeepD A.length [] A B := ⟨by omega, fun id h1 _ => by rw [← hB, List.getElem?_append_left h1]⟩
    have gB : getC B A.length 0 = some [I q1.2.1.1, I q1.2.1.2] := by rw [← hB]; exact getC_new A 0 _
    obtain ⟨vb, C, eC, oC, kC⟩ := lines_fun hLn 0 B (Nat.zero_le _) (b := b) (by omega)
    have gC : getC C A.length 0 = some [I q1.2.1.1, I q1.2.1.2] := kC.getC gB (by omega) (by simp)
    have aC : AccW 0 5 C v1 (q1.1.map tV) := ((aA.d kAB).d kC)
    have nC := aC.rd.len
    have nb := oC.rd.len
    have hll := lines_len b.data.toList
    rw [List.length_map] at nC nb
    rw [hq1] at r1
    simp only [I] at eA hB gC
    have hCl := kC.1
    cases h1 : Tok.lex b.data.toList 1 1 with
    | bad e p q =>
      obtain ⟨he, u, w, hu, hw, hok, hsp⟩ := Tok.lex_ahead _ _ (1, 1) _ _ _ (Nat.le_refl _) h1
      rw [h1] at r1
      simp only at r1
      obtain ⟨y, hy, hyc, hl1, hc1, hlx⟩ := Tok.spot_at u w
      rw [← hu, ← hsp] at hy hlx
      rw [← hsp] at hyc hl1 hc1
      simp only at hy hyc hl1 hc1 hlx
      have hwl : 0 < w.length := List.length_pos_iff.2 hw
      have hul : u.length + w.length = b.size := by have := congrArg List.length hu; rw [List.length_append] at this; exact this.symm
      have p1 : q1.2.1.1 = p := by rw [r1]
      have p2 : q1.2.1.2 = q := by rw [r1]
      have p3 : q1.2.2 = e := by rw [r1]
      have p4 : q1.1 = [] := by rw [r1]
      rw [p4] at nC
      rw [p1, p2] at gC hB
      rw [p1, p2, p3] at eA
      have z0 : (((List.length ([] : List Tok.T) : Nat) : Int) != 0) = false := rfl
      have ne : ((e : Int) != 0) = true := by rcases he with rfl | rfl <;> rfl
      have w1 : IntKind.i64.wrap ((p : Int) - 1) = ((p - 1 : Nat) : Int) := by rw [IntKind.wrap_i64]; omega
      have dl : decide ((p : Int) < 1) = false := by rw [decide_eq_false_iff_not]; omega
      have dg : decide ((p : Int) > ((Tok.lines b.data.toList).length : Int)) = false := by rw [decide_eq_false_iff_not]; omega
      have dc : decide ((q : Int) < 1) = false := by rw [decide_eq_false_iff_not]; omega
      have wy : IntKind.i64.wrap ((y : Int) + (q : Int)) = ((y + q : Nat) : Int) := by rw [IntKind.wrap_i64]; omega
      have wf : IntKind.i64.wrap (((y + q : Nat) : Int) - 1) = (u.length : Int) := by rw [IntKind.wrap_i64]; omega
      have dge : decide ((u.length : Int) ≥ (b.size : Int)) = false := by rw [decide_eq_false_iff_not]; omega
      have hyb : ((Tok.lines b.data.toList).map fun n : Nat => I n)[p - 1]? = some (I y) := by rw [List.getElem?_map, hy]; rfl
      obtain ⟨a, a1, a2⟩ := Rd.at' oC.rd oC.wide hyb
      have hle : ((0 : Int) ≤ ((0 : Nat) : Int) ∧ ((0 : Nat) : Int) ≤ (u.length : Int) ∧ (u.length : Int) ≤ (b.size : Int)) := by omega
      have hex := extract_eq b 0 u.length
      rw [List.drop_zero, hu, List.take_left' rfl, Nat.zero_add] at hex
      have r2 := lexR_small (l := u) (by omega)
      obtain ⟨q2, hq2⟩ : ∃ q, lexR u = q := ⟨_, rfl⟩
      obtain ⟨v2, D, eD, aD, kD⟩ := lex_fun hL T C.length C (Nat.le_refl _) ⟨u.toArray⟩ q2 hq2
      have z2 : (((q2.2.2 : Nat) : Int) == 0) = true := by
        rw [← hq2, r2]
        cases hlu : Tok.lex u 1 1 with
        | done ts => rfl
        | bad e a c => rw [hlu] at hok; cases hok
      obtain ⟨E, hE⟩ : ∃ E, D ++ [Ob.cells 0 [I q2.2.1.1, I q2.2.1.2]] = E := ⟨_, rfl⟩
      simp only [I] at eD hE a2
      have e31 : ((e : Int) != 30) = false ∨ ((e : Int) != 30) = true ∧ ((e : Int) != 31) = false := by rcases he with rfl | rfl; exact .inl rfl; exact .inr ⟨rfl, rfl⟩
      refine ⟨_, callW_fn (c := s_gnomonlaw03_TokenCovers) hT (r := (bl true, E)) (by simp [s_gnomonlaw03_TokenCovers]) ?_⟩
      rcases e31 with e30 | ⟨e30, e31⟩
      · simp only [s_gnomonlaw03_TokenCovers, a_gnomonlaw03_TokenCovers,s_gnomonlaw03_TokenCovers_l0_b,s_gnomonlaw03_TokenCovers_l1_b, am0,am1,am2,am3,am4,am5,am6,am7,bl,i64,reduceIte,reduceCtorEq,Nat.reduceEqDiff,Nat.reduceLT,Nat.reduceLeDiff,Nat.reduceBEq,Nat.reduceAdd,fillA,splice,Nat.reduceMul,al0,al1,al2,al3,al4,al5,al6,al7,al8,al9,al10,al11,al12,al13,al14,al15,al16,al17,al18,al19,al20,al21,al22,al23,al24,al25,al26,al27,al28,al29,al30,al31,al32,al33,al34,amY,op_eqP, hg, eA, hB, Nat.zero_le, eC, ne, nC, z0, gC, dl, nb, dg, dc, w1, a1, a2, wy, wf, dge, e30, xsub_str0, hle, hex, eD, hE, z2, hx]
      · simp only [s_gnomonlaw03_TokenCovers, a_gnomonlaw03_TokenCovers,s_gnomonlaw03_TokenCovers_l0_b,s_gnomonlaw03_TokenCovers_l1_b, am0,am1,am2,am3,am4,am5,am6,am7,bl,i64,reduceIte,reduceCtorEq,Nat.reduceEqDiff,Nat.reduceLT,Nat.reduceLeDiff,Nat.reduceBEq,Nat.reduceAdd,fillA,splice,Nat.reduceMul,al0,al1,al2,al3,al4,al5,al6,al7,al8,al9,al10,al11,al12,al13,al14,al15,al16,al17,al18,al19,al20,al21,al22,al23,al24,al25,al26,al27,al28,al29,al30,al31,al32,al33,al34,amY,op_eqP, hg, eA, hB, Nat.zero_le, eC, ne, nC, z0, gC, dl, nb, dg, dc, w1, a1, a2, wy, wf, dge, e30, e31, xsub_str0, hle, hex, eD, hE, z2, hx]
    | done ts =>
      have h0 := lex_end _ _ _ _ _ (Nat.le_refl _) h1
      have hp1 : 0 < ts.length := List.length_pos_iff.2 h0
      have hl1 := lex_len _ _ _ _ _ (Nat.le_refl _) h1
      rw [h1] at r1
      simp only at r1
      have p1 : q1.2.1 = (0, 0) := by rw [r1]
      have p3 : (((q1.2.2 : Nat) : Int) != 0) = false := by rw [r1]; rfl
      have p4 : q1.1 = ts := by rw [r1]
      rw [p4] at nC aC
      have hcov := Tok.lex_cov _ b.data.toList (1, 1) ts (Nat.le_refl _) h1
      obtain ⟨H', e, k⟩ := covers_loop (CT := CT) (base := 0) (b := b) (by omega) aC (Nat.zero_le _) oC (by omega) (by omega) ts 0 0 C (by omega) rfl (Nat.zero_le _) (by simpa [Tok.spotL] using hcov) (KeepD.refl [] C)
      simp only [I, show ((0 : Nat) : Int) = 0 from rfl] at e
      have z1 : ((ts.length : Int) == 0) = false := by rw [beq_eq_false_iff_ne]; omega
      have s1 : ((q1.2.1.1 : Int) == 0) = true := by rw [p1]; rfl
      have s2 : ((q1.2.1.2 : Int) == 0) = true := by rw [p1]; rfl
      refine ⟨_, callW_fn (c := s_gnomonlaw03_TokenCovers) hT (r := (bl true, H')) (by simp [s_gnomonlaw03_TokenCovers]) ?_⟩
      simp only [s_gnomonlaw03_TokenCovers, a_gnomonlaw03_TokenCovers,s_gnomonlaw03_TokenCovers_l0_b,s_gnomonlaw03_TokenCovers_l1_b, am0,am1,am2,am3,am4,am5,am6,am7,bl,i64,reduceIte,reduceCtorEq,Nat.reduceEqDiff,Nat.reduceLT,Nat.reduceLeDiff,Nat.reduceBEq,Nat.reduceAdd,fillA,splice,Nat.reduceMul,al0,al1,al2,al3,al4,al5,al6,al7,al8,al9,al10,al11,al12,al13,al14,al15,al16,al17,al18,al19,al20,al21,al22,al23,al24,al25,al26,al27,al28,al29,al30,al31,al32,al33,al34,amY,op_eqP, hg, eA, hB, Nat.zero_le, eC, p3, gC, spot_eq, s1, s2, nC, z1, e, beq_self_eq_true, hx]
end
end Go.Proofs.YtfnkpedipicjnaaDoor
