/-
  Control: rows of operations in the text's order, loops, what is dropped.
-/
import Derived.Test.YtmnlagcmpgilaaaAm12
import Derived.RangeFuncLeaves
set_option linter.all false
namespace Go.AM
open Go.RowKit
section
variable {CC : Code → ACode → Prop} {μ μ' : Mu} {Mt Mt' : Nat → Prop} {w w' : World} {H H' : Heap} {P : Program} {pure' : Nat → Bool}

/-! ### Frames -/

theorem FR.put {fr : List V} {a : Act} (hf : FR μ Mt w fr a.tmps) (dst : Option Nat) {v : V} {c : Value} (hv : VR μ Mt w v c) : FR μ Mt w (put dst v fr) (a.put dst c).tmps := by
  cases dst with
  | none => exact hf
  | some d =>
    have := VRs.set hf d hv
    simpa [FR, AM.put, Act.put] using this

theorem FR.post {μ0 : Mu} {Mt0 : Nat → Prop} {w0 : World} {H0 : Heap} (h0 : HR CC μ0 Mt0 w0 H0) (hp : Post CC μ0 Mt0 w0 H0 μ Mt w H) {fr : List V} {t : Array Value} (hf : FR μ0 Mt0 w0 fr t) : FR μ Mt w fr t := hp.vrs h0 hf

theorem FR.set_unk {fr : List V} {t : Array Value} (hf : FR μ Mt w fr t) (i : Nat) : FR μ Mt w (fr.set i .unk) t := by
  refine ⟨by simpa using hf.1, fun j a b ha hb => ?_⟩
  by_cases hj : i = j
  · subst hj
    rw [List.getElem?_set_self (by have := (List.getElem?_eq_some_iff.1 ha).1; simpa using this)] at ha
    cases ha
    exact .unk _
  · rw [List.getElem?_set_ne hj] at ha
    exact hf.2 j a b ha hb

theorem FR.kill {t : Array Value} : ∀ (ks : List Nat) {fr : List V}, FR μ Mt w fr t → FR μ Mt w (killS ks fr) t := by
  intro ks
  induction ks with
  | nil => intro fr h; exact h
  | cons k ks ih => intro fr h; exact ih (h.set_unk k)

/-! ### Guards -/

theorem want_sim {ops : Array Oper} {o : Oper} {ao : AOper} (hg : compGuard ops o.guard = some ao.guard) {fr : List V} {t : Array Value} (hf : FR μ Mt w fr t) {b : Bool} (h : want ao fr = some b) : Region.wanted o (yielded ops t) = b := by
  unfold compGuard at hg
  split at hg
  · rename_i e1
    cases hgg : ao.guard with
    | none => simp [want, hgg] at h; subst h; simp [Region.wanted, e1]
    | some p => rw [hgg] at hg; cases hg
  · rename_i j x e1
    split at hg
    · rename_i oj hoj
      split at hg
      · rename_i d hd
        cases hgg : ao.guard with
        | none => rw [hgg] at hg; cases hg
        | some p =>
          rw [hgg] at hg
          cases hg
          simp only [want, hgg] at h
          have hv := hf.getD d
          have hy : yielded ops t j = match t[d]? with | some (.bool b) => some b | _ => none := by
            simp only [yielded, hoj, Option.bind_some, hd]
            rfl
          have hdl : ∀ u, fr.getD d .unk = .s u → t[d]? = some u := by
            intro u hu
            rw [hu] at hv
            have hv := vr_s hv
            by_cases hl : d < t.size
            · simp [hl] at hv ⊢; exact hv
            · exfalso
              have : fr.getD d .unk = .unk := by
                have : ¬ d < fr.length := by rw [hf.1]; simpa using hl
                simp [List.getD, this]
              rw [this] at hu; cases hu
          split at h
          · rename_i y hy'
            cases h
            have := hdl _ hy'
            simp only [Region.wanted, e1, hy, this]
            cases y <;> cases x <;> rfl
          · rename_i y hy'
            cases h
            have := hdl _ hy'
            simp only [Region.wanted, e1, hy, this]
            rfl
          · cases h
      · cases hg
    · cases hg

/-! ### A row in the text's order -/

/-- What a row of operations leaves. -/
def RegQ (CC : Code → ACode → Prop) (μ : Mu) (Mt : Nat → Prop) (w : World) (H : Heap) (ds : List Deferred) (fr' : List V) (H' : Heap) (a' : Act) (w' : World) : Prop :=
  ∃ μ' Mt', Post CC μ Mt w H μ' Mt' w' H' ∧ FR μ' Mt' w' fr' a'.tmps ∧ a'.defers = ds

theorem put_defers (a : Act) (d : Option Tmp) (v : Value) : (a.put d v).defers = a.defers := by cases d <;> rfl

theorem reg_text {call : CallF} (hs : SimCall P CC call) {ops : Array Oper} {l : List AOper} (hr : RegR P pure' ops l) {base : Nat} {ro : Option Nat} {n : Nat} {Q : Exit → Act → World → Prop} {fr' : List V} {H' : Heap} :
    ∀ (j k : Nat) (fr : List V) (H : Heap) (a : Act) (w : World) (μ : Mu) (Mt : Nat → Prop), j + k = ops.size → HR CC μ Mt w H → FR μ Mt w fr a.tmps → evOps call base (l.drop k) fr H = some (fr', H') →
      (∀ a' w', RegQ CC μ Mt w H a.defers fr' H' a' w' → Q .normal a' w') → wpOpsIn (Fw ro) n P ops Q ((List.range ops.size).drop k) a w := by
  intro j
  induction j with
  | zero =>
    intro k fr H a w μ Mt hk h hf hev hQ
    have hk' : k = ops.size := by omega
    subst hk'
    rw [List.drop_of_length_le (by simp)]
    rw [List.drop_of_length_le (by rw [hr.1]; exact Nat.le_refl _)] at hev
    cases hev
    exact hQ a w ⟨μ, Mt, Post.refl h, hf, rfl⟩
  | succ j ih =>
    intro k fr H a w μ Mt hk h hf hev hQ
    have hlt : k < ops.size := by omega
    have hltl : k < l.length := by rw [hr.1]; exact hlt
    have e1 : (List.range ops.size).drop k = k :: (List.range ops.size).drop (k + 1) := by
      rw [List.drop_eq_getElem_cons (by simpa using hlt)]; simp
    rw [e1]
    rw [List.drop_eq_getElem_cons hltl] at hev
    have ho : ops[k]? = some ops[k] := Array.getElem?_eq_getElem hlt
    obtain ⟨hd, hc, hg⟩ := hr.2 k ops[k] l[k] ho (List.getElem?_eq_getElem hltl)
    rw [wpOpsIn_cons]
    unfold wpOpIn
    simp only [ho]
    simp only [evOps] at hev
    split at hev
    · cases hev
    · rename_i hw
      rw [want_sim hg hf hw]
      simp only [Bool.false_eq_true, if_false]
      refine ⟨fun _ _ => trivial, ?_⟩
      refine ih (k + 1) _ H _ w μ Mt (by omega) h (hd ▸ hf.put _ (.s _)) hev (fun a' w' hq => hQ a' w' ?_)
      rw [put_defers] at hq
      exact hq
    · rename_i hw
      rw [want_sim hg hf hw]
      simp only [if_true]
      split at hev
      · rename_i v H1 hop
        refine oper_wp hs h hf hc hop ?_
        rintro r w1 ⟨c, μ1, Mt1, e, hv, hp⟩
        cases e
        refine ih (k + 1) _ H1 _ w1 μ1 Mt1 (by omega) hp.hr (hd ▸ (hf.post h hp).put _ hv) hev (fun a' w' hq => hQ a' w' ?_)
        rw [put_defers] at hq
        obtain ⟨μ2, Mt2, hp2, hf2, hd2⟩ := hq
        exact ⟨μ2, Mt2, hp.trans hp2, hf2, hd2⟩
      · cases hev

/-! ### Dropping objects that are not named -/

/-- The names below m. -/
def restr (m : Nat) (μ : Mu) : Mu := fun id g => if id < m then μ id g else none

theorem restr_some {m id g : Nat} {p : Nat × Nat} (h : restr m μ id g = some p) : id < m ∧ μ id g = some p := by
  unfold restr at h
  split at h
  · exact ⟨‹_›, h⟩
  · cases h

theorem restr_lt {m id g : Nat} (h : id < m) : restr m μ id g = μ id g := by simp [restr, h]

theorem vr_restr {m : Nat} : ∀ (n : Nat) {v : V} {c : Value}, idsUnder m n v = true → VR μ Mt w v c → VR (restr m μ) Mt w v c := by
  intro n
  induction n with
  | zero => intro v c h; simp [idsUnder] at h
  | succ n ih =>
    intro v c h hv
    have all : ∀ {cs : List V} {vs : Array Value}, cs.all (idsUnder m n) = true → (∀ (i : Nat) (a : V) (b : Value), cs[i]? = some a → vs[i]? = some b → VR μ Mt w a b) →
        ∀ (i : Nat) (a : V) (b : Value), cs[i]? = some a → vs[i]? = some b → VR (restr m μ) Mt w a b := fun ha hv i a b h1 h2 => ih (by rw [List.all_eq_true] at ha; exact ha a (List.mem_of_getElem? h1)) (hv i a b h1 h2)
    cases hv with
    | s => exact .s _
    | unk => exact .unk _
    | agg cs vs hl hvs => exact .agg cs vs hl (all (by simpa [idsUnder] using h) hvs)
    | tup cs vs hl hvs => exact .tup cs vs hl (all (by simpa [idsUnder] using h) hvs)
    | ref id g off B b hm => simp [idsUnder] at h; exact .ref id g off B b (by rw [restr_lt h]; exact hm)
    | pref cs B o arr e fr hB hMB hs hvv => exact .pref cs B o arr e fr hB hMB hs hvv
    | sl id g off len sz B b cap arr e hm hB hc hs => simp [idsUnder] at h; exact .sl id g off len sz B b cap arr e (by rw [restr_lt h]; exact hm) hB hc hs
    | sl0 id g off sz B b a hm => simp [idsUnder] at h; exact .sl0 id g off sz B b a (by rw [restr_lt h]; exact hm)
    | psl es sz B o cap arr e fr hB hMB hc hz hs hvv => exact .psl es sz B o cap arr e fr hB hMB hc hz hs hvv
    | psl0 sz cap a => exact .psl0 _ _ _
    | esl a => exact .esl _
    | mp id B hm => simp [idsUnder] at h; exact .mp id B (by rw [restr_lt h]; exact hm)
    | fn f fst cap fst' cap' h1 h2 h3 h4 =>
      simp only [idsUnder, Bool.and_eq_true] at h
      exact .fn f fst cap fst' cap' h1 h2 (all h.1 h3) (all h.2 h4)
    | yld id B hm => simp [idsUnder] at h; exact .yld id B (by rw [restr_lt h]; exact hm)

theorem vrs_restr {m n : Nat} {vs : List V} {cs : List Value} (h : vs.all (idsUnder m n) = true) (hv : VRs μ Mt w vs cs) : VRs (restr m μ) Mt w vs cs :=
  ⟨hv.1, fun i a b ha hb => vr_restr n (by rw [List.all_eq_true] at h; exact h a (List.mem_of_getElem? ha)) (hv.2 i a b ha hb)⟩

theorem obR_restr {m : Nat} {ob : Ob} {b : Nat} {o : Obj} (h : Ob.under m ob = true) (hr : ObR CC μ Mt w ob b o) : ObR CC (restr m μ) Mt w ob b o := by
  cases ob with
  | cells g c =>
    cases o <;> first | exact hr.elim | skip
    exact ⟨hr.1, hr.2.1, fun i a v ha hv => vr_restr 8 (by simp only [Ob.under, List.all_eq_true] at h; exact h a (List.mem_of_getElem? ha)) (hr.2.2 i a v ha hv)⟩
  | map es =>
    cases o <;> first | exact hr.elim | skip
    exact ⟨hr.1, hr.2.1, fun i k v e he hv => ⟨(hr.2.2 i k v e he hv).1, vr_restr 8 (by simp only [Ob.under, List.all_eq_true] at h; exact h _ (List.mem_of_getElem? he)) (hr.2.2 i k v e he hv).2⟩⟩
  | loop st pend tmps params assign body =>
    cases o <;> first | exact hr.elim | skip
    obtain ⟨h0, h1, h2, h3, h4, h5, h6⟩ := hr
    exact ⟨h0, h1, h2, vrs_restr h h3, h4, h5, h6⟩
  | dead => cases o <;> exact hr.elim

theorem vw_under {m : Nat} : ∀ (n : Nat) {v : V}, idsUnder m n v = true → VW m v := by
  intro n
  induction n with
  | zero => intro v h; simp [idsUnder] at h
  | succ n ih =>
    intro v h
    have all : ∀ {cs : List V}, cs.all (idsUnder m n) = true → ∀ v ∈ cs, VW m v := fun ha v hv => ih (by rw [List.all_eq_true] at ha; exact ha v hv)
    cases v <;> simp only [idsUnder, Bool.and_eq_true, decide_eq_true_eq] at h
    case s => exact .s _
    case agg => exact .agg _ (all h)
    case tup => exact .tup _ (all h)
    case ref => exact .ref _ _ _ h
    case pref => exact .pref _
    case sl => exact .sl _ _ _ _ _ h
    case psl => exact .psl _ _
    case esl => exact .esl
    case mp => exact .mp _ h
    case fn => exact .fn _ _ _ (all h.1) (all h.2)
    case yld => exact .yld _ h
    case ifc => cases h
    case unk => exact .unk

theorem obw_under {m : Nat} {ob : Ob} (h : Ob.under m ob = true) : ObW m ob := by
  cases ob with
  | cells g c => simp only [Ob.under, List.all_eq_true] at h; exact fun v hv => vw_under 8 (h v hv)
  | map es => simp only [Ob.under, List.all_eq_true] at h; exact fun e he => vw_under 8 (h e he)
  | loop st pe t ps a b => simp only [Ob.under, List.all_eq_true] at h; exact fun v hv => vw_under 8 (h v hv)
  | dead => trivial

theorem trim_post {μ0 : Mu} {Mt0 : Nat → Prop} {w0 : World} {H0 : Heap} (hp : Post CC μ0 Mt0 w0 H0 μ Mt w H) (hd0 : ∀ id g p, μ0 id g = some p → id < H0.length) {m : Nat} (hm0 : H0.length ≤ m) (hm : m ≤ H.length) {fr : List V} {t : Array Value} (hf : FR μ Mt w fr t) :
    ∃ μ2, Post CC μ0 Mt0 w0 H0 μ2 Mt w (trim m fr H) ∧ FR μ2 Mt w fr t ∧ (∀ id g p, μ2 id g = some p → μ id g = some p) ∧ m ≤ (trim m fr H).length := by
  unfold trim
  split
  · rename_i hc
    simp only [Bool.and_eq_true] at hc
    have hlen : (H.take m).length = m := by simp; omega
    have hget : ∀ (id : Nat) (ob : Ob), (H.take m)[id]? = some ob → id < m ∧ H[id]? = some ob := by
      intro id ob h
      have hi : id < m := by have := (List.getElem?_eq_some_iff.1 h).1; omega
      exact ⟨hi, by rwa [List.getElem?_take_of_lt hi] at h⟩
    refine ⟨restr m μ, ⟨by rw [hlen]; exact hm0, ⟨fun id g p e => by rw [hlen]; exact (restr_some e).1, fun id g B b e => hp.hr.isMut id g B b (restr_some e).2, fun id ob g B b hH hcur e => ?_,
      fun id g id' g' B b b' e e' => hp.hr.inj _ _ _ _ _ _ _ (restr_some e).2 (restr_some e').2, fun id g g' c p e hH => hp.hr.gens _ _ _ _ _ (restr_some e).2 (hget _ _ hH).2, fun id ob hH => by
        rw [hlen]
        have h2 := hc.2
        rw [List.all_eq_true] at h2
        exact obw_under (h2 ob (List.mem_of_getElem? hH))⟩,
      fun id g p e => by rw [restr_lt (Nat.lt_of_lt_of_le (hd0 _ _ _ e) hm0)]; exact hp.ext _ _ _ e, hp.mt, hp.tr, fun id g B b e hB => hp.old _ _ _ _ (restr_some e).2 hB, fun id g p e hid => hp.news _ _ _ (restr_some e).2 hid⟩,
      vrs_restr hc.1 hf, fun id g p e => (restr_some e).2, by rw [hlen]; exact Nat.le_refl _⟩
    obtain ⟨o, ho, hr⟩ := hp.hr.objs id ob g B b (hget _ _ hH).2 hcur (restr_some e).2
    refine ⟨o, ho, obR_restr ?_ hr⟩
    have := hc.2
    rw [List.all_eq_true] at this
    exact this ob (List.mem_of_getElem? hH)
  · exact ⟨μ, hp, hf, fun _ _ _ h => h, hm⟩

/-! ### Marks among the deferred calls -/

def markOf (D : Nat) : Deferred := { target := .collected D, args := #[] }

/-- ds' is ds with marks ahead, laid since lo. -/
def Marks (lo : Nat) (μ : Mu) (w : World) (ds' ds : List Deferred) : Prop :=
  ∃ L : List Nat, ds' = L.map markOf ++ ds ∧ L.Nodup ∧ ∀ D ∈ L, lo ≤ D ∧ w.heap[D]? = some (.deferred (some [])) ∧ ∀ id g b, μ id g ≠ some (D, b)

theorem Marks.refl (lo : Nat) (μ : Mu) (w : World) (ds : List Deferred) : Marks lo μ w ds ds := ⟨[], rfl, List.nodup_nil, fun _ h => by cases h⟩

theorem Marks.sub {lo : Nat} {ds' ds : List Deferred} (h : Marks lo μ w ds' ds) (hs : ∀ id g p, μ' id g = some p → μ id g = some p) : Marks lo μ' w ds' ds := by
  obtain ⟨L, h1, h2, h3⟩ := h
  exact ⟨L, h1, h2, fun D hD => ⟨(h3 D hD).1, (h3 D hD).2.1, fun id g b e => (h3 D hD).2.2 id g b (hs _ _ _ e)⟩⟩

theorem Marks.trans {lo : Nat} {μ1 μ2 : Mu} {Mt1 Mt2 : Nat → Prop} {w1 w2 : World} {H1 H2 : Heap} {ds ds1 ds2 : List Deferred} (h : Marks lo μ1 w1 ds1 ds) (hp : Post CC μ1 Mt1 w1 H1 μ2 Mt2 w2 H2) (hlo : lo ≤ w1.heap.size) (k : Marks w1.heap.size μ2 w2 ds2 ds1) : Marks lo μ2 w2 ds2 ds := by
  obtain ⟨L, rfl, h2, h3⟩ := h
  obtain ⟨K, rfl, k2, k3⟩ := k
  refine ⟨K ++ L, by simp, ?_, ?_⟩
  · refine List.nodup_append.2 ⟨k2, h2, ?_⟩
    intro x hx y hy e
    subst e
    have h1 := (k3 x hx).1
    have h4 := lt_of_some (h3 x hy).2.1
    omega
  · intro D hD
    rcases List.mem_append.1 hD with hD | hD
    · exact ⟨Nat.le_trans hlo (k3 D hD).1, (k3 D hD).2⟩
    · obtain ⟨q1, q2, q3⟩ := h3 D hD
      refine ⟨q1, (hp.tr.keep D (lt_of_some q2) q3).trans q2, fun id g b e => ?_⟩
      obtain ⟨id0, g0, b0, e0⟩ := hp.old id g D b e (lt_of_some q2)
      exact q3 id0 g0 b0 e0

/-- What a piece of code leaves. -/
def CRes (CC : Code → ACode → Prop) (μ : Mu) (Mt : Nat → Prop) (w : World) (H : Heap) (ds : List Deferred) (fr' : List V) (H' : Heap) (a' : Act) (w' : World) : Prop :=
  ∃ μ' Mt', Post CC μ Mt w H μ' Mt' w' H' ∧ FR μ' Mt' w' fr' a'.tmps ∧ Marks w.heap.size μ' w' a'.defers ds

theorem CRes.trans {μ1 : Mu} {Mt1 : Nat → Prop} {w1 : World} {H1 : Heap} {ds ds1 : List Deferred} {fr' : List V} {a' : Act} (hp : Post CC μ Mt w H μ1 Mt1 w1 H1) (hm : Marks w.heap.size μ1 w1 ds1 ds) (h : CRes CC μ1 Mt1 w1 H1 ds1 fr' H' a' w') :
    CRes CC μ Mt w H ds fr' H' a' w' := by
  obtain ⟨μ2, Mt2, p2, f2, m2⟩ := h
  exact ⟨μ2, Mt2, hp.trans p2, f2, hm.trans p2 hp.tr.size m2⟩

def exOf : Ex → Exit
  | .nrm => .normal
  | .ext id => .exit id
  | .ret => .ret

/-- What is owed by a piece of code. -/
def SimC (P : Program) (CC : Code → ACode → Prop) (ro : Option Nat) (n : Nat) (c : Code) (b : List V → Heap → Option St) : Prop :=
  ∀ (fr : List V) (H : Heap) (e : Ex) (fr' : List V) (H' : Heap), b fr H = some (e, fr', H') →
    ∀ (μ : Mu) (Mt : Nat → Prop) (w : World) (a : Act) (Q : Exit → Act → World → Prop), HR CC μ Mt w H → FR μ Mt w fr a.tmps → (∀ l, ro = some l → ∃ r, w.heap[l]? = some (.loop r)) →
      (∀ a' w', CRes CC μ Mt w H a.defers fr' H' a' w' → Q (exOf e) a' w') → c.wpIn (Fw ro) n P Q a w

theorem loop_sim {ro : Option Nat} {n : Nat} {c : Code} {b : List V → Heap → Option St} (hb : SimC P CC ro n c b) (kill : List Nat) (m : Nat) : ∀ (k : Nat) (fr : List V) (H : Heap) (e : Ex) (fr' : List V) (H' : Heap), iterN b kill m k fr H = some (e, fr', H') →
    ∀ (μ : Mu) (Mt : Nat → Prop) (w : World) (a : Act) (Q : Exit → Act → World → Prop) (μ0 : Mu) (Mt0 : Nat → Prop) (w0 : World) (H0 : Heap) (ds : List Deferred), HR CC μ0 Mt0 w0 H0 → H0.length ≤ m → m ≤ H.length →
      Post CC μ0 Mt0 w0 H0 μ Mt w H → Marks w0.heap.size μ w a.defers ds → FR μ Mt w fr a.tmps → (∀ l, ro = some l → ∃ r, w.heap[l]? = some (.loop r)) →
      (∀ a' w', CRes CC μ0 Mt0 w0 H0 ds fr' H' a' w' → Q (exOf e) a' w') → Code.roundsIn (Fw ro) n P c Q k a w := by
  intro k
  induction k with
  | zero => intro fr H e fr' H' h; simp [iterN] at h
  | succ k ih =>
    intro fr H e fr' H' hev μ Mt w a Q μ0 Mt0 w0 H0 ds h0 hm0 hm hp hmk hf hro hQ
    rw [roundsIn_succ]
    simp only [iterN] at hev
    split at hev
    · rename_i fr1 H1 hb1
      refine hb fr H .nrm fr1 H1 hb1 μ Mt w a _ hp.hr hf hro ?_
      rintro a1 w1 ⟨μ1, Mt1, p1, f1, m1⟩
      have hpp := hp.trans p1
      obtain ⟨μ2, p2, f2, s2, l2⟩ := trim_post hpp h0.dom hm0 (Nat.le_trans hm p1.len) (f1.kill kill)
      have mk2 := (hmk.trans p1 hp.tr.size m1).sub s2
      refine ih _ _ e fr' H' hev μ2 Mt1 w1 a1 Q μ0 Mt0 w0 H0 ds h0 hm0 l2 p2 mk2 f2 (fun l hl => ?_) hQ
      obtain ⟨r, hr⟩ := hro l hl
      exact p1.tr.loops l r hr
    · rename_i e1 fr1 H1 hne hb1
      cases hev
      refine hb fr H e fr1 H1 hb1 μ Mt w a _ hp.hr hf hro ?_
      rintro a1 w1 ⟨μ1, Mt1, p1, f1, m1⟩
      have hpp := hp.trans p1
      obtain ⟨μ2, p2, f2, s2, _⟩ := trim_post hpp h0.dom hm0 (Nat.le_trans hm p1.len) (f1.kill kill)
      have mk2 := (hmk.trans p1 hp.tr.size m1).sub s2
      have := hQ a1 w1 ⟨μ2, Mt1, p2, f2, mk2⟩
      cases e with
      | nrm => exact (hne rfl).elim
      | ext id => exact this
      | ret => exact this
    · cases hev
end
end Go.AM
