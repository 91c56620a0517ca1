/-
  Code: what the abstract run gives, the model gives.
-/
import Derived.Test.YtmnlagcmpgilaaaAmE
import Derived.RangeFuncNested
set_option linter.all false
namespace Go.AM
open Go.RowKit

/-! ### The floor -/
section
variable {call : CallF} {base : Nat}

def Floor (base : Nat) (H H' : Heap) : Prop := H.length ≤ H'.length ∧ ∀ id, id < base → id < H.length → H'[id]? = H[id]?

theorem Floor.refl (base : Nat) (H : Heap) : Floor base H H := ⟨Nat.le_refl _, fun _ _ _ => rfl⟩
theorem Floor.trans {A B C : Heap} (h : Floor base A B) (k : Floor base B C) : Floor base A C :=
  ⟨Nat.le_trans h.1 k.1, fun id h1 h2 => (k.2 id h1 (Nat.lt_of_lt_of_le h2 h.1)).trans (h.2 id h1 h2)⟩

theorem trim_keep {m : Nat} {fr : List V} {H : Heap} (hm : m ≤ H.length) : m ≤ (trim m fr H).length ∧ ∀ id, id < m → (trim m fr H)[id]? = H[id]? := by
  unfold trim
  split
  · refine ⟨by simp; omega, fun id h => by rw [List.getElem?_take_of_lt h]⟩
  · exact ⟨hm, fun _ _ => rfl⟩


theorem evOps_floor (hfl : ∀ v args base H r H', call v args base H = some (r, H') → H.length ≤ H'.length ∧ ∀ id, id < base → id < H.length → H'[id]? = H[id]?) : ∀ (l : List AOper) {fr fr' : List V} {H H' : Heap}, evOps call base l fr H = some (fr', H') → Floor base H H' := by
  intro l
  induction l with
  | nil => intro fr fr' H H' h; cases h; exact .refl _ _
  | cons o l ih =>
    intro fr fr' H H' h
    simp only [evOps] at h
    split at h
    · cases h
    · exact ih h
    · split at h
      · rename_i v H1 hop; exact Floor.trans (evOp_floor hfl hop) (ih h)
      · cases h

theorem iterN_floor {b : List V → Heap → Option St} (hb : ∀ fr H e fr' H', b fr H = some (e, fr', H') → Floor base H H') (kill : List Nat) (m : Nat) : ∀ (k : Nat) {fr : List V} {H : Heap} {e : Ex} {fr' : List V} {H' : Heap}, m ≤ H.length →
    iterN b kill m k fr H = some (e, fr', H') → m ≤ H'.length ∧ ∀ id, id < base → id < m → H'[id]? = H[id]? := by
  intro k
  induction k with
  | zero => intro fr H e fr' H' _ h; simp [iterN] at h
  | succ k ih =>
    intro fr H e fr' H' hm h
    simp only [iterN] at h
    split at h
    · rename_i fr1 H1 h1
      have f := hb _ _ _ _ _ h1
      obtain ⟨t1, t2⟩ := trim_keep (fr := killS kill fr1) (Nat.le_trans hm f.1)
      obtain ⟨r1, r2⟩ := ih t1 h
      exact ⟨r1, fun id h1 h2 => (r2 id h1 h2).trans ((t2 id h2).trans (f.2 id h1 (Nat.lt_of_lt_of_le h2 hm)))⟩
    · rename_i e1 fr1 H1 _ h1
      cases h
      have f := hb _ _ _ _ _ h1
      obtain ⟨t1, t2⟩ := trim_keep (fr := killS kill fr1) (Nat.le_trans hm f.1)
      exact ⟨t1, fun id h1 h2 => (t2 id h2).trans (f.2 id h1 (Nat.lt_of_lt_of_le h2 hm))⟩
    · cases h

theorem evC_floor (hfl : ∀ v args base H r H', call v args base H = some (r, H') → H.length ≤ H'.length ∧ ∀ id, id < base → id < H.length → H'[id]? = H[id]?) (nn : Nat) (c : ACode) : ∀ {fr : List V} {H : Heap} {e : Ex} {fr' : List V} {H' : Heap}, evC call (fun b k m => iterN b k m nn) base c fr H = some (e, fr', H') → Floor base H H' := by
  induction c with
  | skip => intro fr H e fr' H' h; simp only [evC] at h; cases h; exact .refl _ _
  | region ops chk kill =>
    intro fr H e fr' H' h
    simp only [evC] at h
    split at h
    · rename_i fr1 H1 h1
      split at h
      · cases h; exact evOps_floor hfl ops h1
      · cases h
    · cases h
  | regionE ops kill outs =>
    intro fr H e fr' H' h
    simp only [evC] at h
    split at h
    · cases h; exact .refl _ _
    · cases h
  | seq a b iha ihb =>
    intro fr H e fr' H' h
    simp only [evC] at h
    split at h
    · rename_i fr1 H1 h1; exact (iha h1).trans (ihb h)
    · exact iha h
  | cond c a b iha ihb =>
    intro fr H e fr' H' h
    simp only [evC] at h
    split at h
    · exact iha h
    · exact ihb h
    · cases h
  | block id c ih =>
    intro fr H e fr' H' h
    simp only [evC] at h
    split at h
    · rename_i id' fr1 H1 h1; cases h; exact ih h1
    · exact ih h
  | loop kill c ih =>
    intro fr H e fr' H' h
    simp only [evC] at h
    obtain ⟨h1, h2⟩ := iterN_floor (fun fr H e fr' H' h => ih h) kill H.length nn (Nat.le_refl _) h
    exact ⟨h1, fun id a b => h2 id a b⟩
  | rangeFunc f ps a b _ _ =>
    intro fr H e fr' H' h
    have fin : ∀ (H2 : Heap) (v : V) (x : V), call x [.yld H.length] base (H ++ [.loop .ready none fr ps a b]) = some (v, H2) → Floor base H (trim H.length fr (H2.set H.length .dead)) := by
      intro H2 v x hc
      obtain ⟨f1, f2⟩ := hfl _ _ _ _ _ _ hc
      simp only [List.length_append, List.length_cons, List.length_nil] at f1 f2
      obtain ⟨t1, t2⟩ := trim_keep (m := H.length) (fr := fr) (H := H2.set H.length .dead) (by simp; omega)
      refine ⟨t1, fun id h1 h2 => (t2 id h2).trans ?_⟩
      rw [List.getElem?_set_ne (by omega), f2 id h1 (by omega), List.getElem?_append_left h2]
    simp only [evC] at h
    split at h
    · split at h
      · rename_i v H2 hc
        split at h
        · cases h; exact fin _ _ _ hc
        · cases h; exact fin _ _ _ hc
        · cases h
      · cases h
    · cases h
  | exit id => intro fr H e fr' H' h; simp only [evC] at h; cases h; exact .refl _ _
  | ret => intro fr H e fr' H' h; simp only [evC] at h; cases h; exact .refl _ _
end

/-! ### The walk -/
section
variable {μ μ' : Mu} {Mt Mt' : Nat → Prop} {w w' : World} {H H' : Heap} {P : Program} {pure' : Nat → Bool} {call : CallF}

theorem CRes.of_reg {CC : Code → ACode → Prop} {ds : List Deferred} {fr' : List V} {a' : Act} (kill : List Nat) (h : RegQ CC μ Mt w H ds fr' H' a' w') : CRes CC μ Mt w H ds (killS kill fr') H' a' w' := by
  obtain ⟨μ', Mt', h1, h2, h3⟩ := h
  exact ⟨μ', Mt', h1, h2.kill kill, by rw [h3]; exact Marks.refl _ _ _ _⟩

theorem CRes.refl {CC : Code → ACode → Prop} (h : HR CC μ Mt w H) {a : Act} {fr : List V} (hf : FR μ Mt w fr a.tmps) : CRes CC μ Mt w H a.defers fr H a w := ⟨μ, Mt, Post.refl h, hf, Marks.refl _ _ _ _⟩

/-- A loop over a function is entered. -/
theorem enter_sim (h : HR (CodeR P pure') μ Mt w H) {a : Act} {fr : List V} (hf : FR μ Mt w fr a.tmps) {ro : Option Nat} (hro : ∀ l, ro = some l → ∃ r, w.heap[l]? = some (.loop r)) (fn : FuncId) (ps : Array Tmp) {x y : Code} {ax ay : ACode}
    (hx : CodeR P pure' x ax) (hy : CodeR P pure' y ay) :
    ∃ l mark w1 μ1 Mt1, (Instr.enterLoop fn a.tmps ps x y ro).run P w = .ok (l, mark) w1 ∧ Post (CodeR P pure') μ Mt w H μ1 Mt1 w1 (H ++ [.loop .ready none fr ps.toList ax ay]) ∧ μ1 H.length 0 = some (l, 0) ∧ Marks w.heap.size μ1 w1 (mark ++ a.defers) a.defers := by
  have mk : ∀ {w1 : World} {Mt1 : Nat → Prop} (D : Nat), HR (CodeR P pure') μ Mt1 w1 H → VRs μ Mt1 w1 fr a.tmps.toList → ObR (CodeR P pure') μ Mt1 w1 (.loop .ready none fr ps.toList ax ay) 0 (.loop { state := .ready, pending := none, fn, tmps := a.tmps, params := ps, assign := x, body := y, defers := D }) :=
    fun D _ hv => ⟨rfl, rfl, rfl, hv, rfl, hx, hy⟩
  cases ro with
  | none =>
    have p1 : Post (CodeR P pure') μ Mt w H μ Mt (w.alloc (.deferred (some []))) H := post_ghost h _ rfl rfl rfl rfl
    have p2 := post_push p1.hr (.loop { state := .ready, pending := none, fn, tmps := a.tmps, params := ps, assign := x, body := y, defers := w.heap.size }) (.loop .ready none fr ps.toList ax ay) (mk _ p1.hr (p1.vrs h hf)) (w' := (w.alloc (.deferred (some []))).alloc (.loop { state := .ready, pending := none, fn, tmps := a.tmps, params := ps, assign := x, body := y, defers := w.heap.size })) rfl rfl rfl rfl
    refine ⟨_, _, _, _, _, run_enterLoop_outer fn a.tmps ps x y, p1.trans p2, ?_, ?_⟩
    · have : (w.alloc (.deferred (some []))).heap.size = w.heap.size + 1 := World.size_alloc ..
      rw [this]; exact updM_same _ _ _ _
    · refine ⟨[w.heap.size], rfl, by simp, fun D hD => ?_⟩
      simp at hD
      subst hD
      have hs : (w.alloc (.deferred (some []))).heap.size = w.heap.size + 1 := World.size_alloc ..
      have h1 : (w.alloc (.deferred (some []))).heap[w.heap.size]? = some (.deferred (some [])) := World.alloc_heap_new ..
      refine ⟨Nat.le_refl _, (heap_push (w := w.alloc (.deferred (some []))) rfl (by rw [hs]; omega)).trans h1, fun id g b e => ?_⟩
      by_cases hc : id = H.length ∧ g = 0
      · obtain ⟨rfl, rfl⟩ := hc
        rw [updM_same] at e
        have := (Prod.mk.inj (Option.some.inj e)).1
        rw [hs] at this
        omega
      · rw [updM_other hc] at e
        have := (h.isMut _ _ _ _ e).2
        omega
  | some l0 =>
    obtain ⟨r0, hr0⟩ := hro l0 rfl
    have p2 := post_push h (.loop { state := .ready, pending := none, fn, tmps := a.tmps, params := ps, assign := x, body := y, defers := r0.defers }) (.loop .ready none fr ps.toList ax ay) (mk _ h hf) (w' := w.alloc (.loop { state := .ready, pending := none, fn, tmps := a.tmps, params := ps, assign := x, body := y, defers := r0.defers })) rfl rfl rfl rfl
    exact ⟨_, _, _, _, _, run_enterLoop_inner hr0 fn a.tmps ps x y, p2, updM_same _ _ _ _, Marks.refl _ _ _ _⟩

/-- A loop over a function is left. -/
theorem leave_sim {μ0 : Mu} {Mt0 : Nat → Prop} {w0 : World} {H0 : Heap} {CC : Code → ACode → Prop} (h0 : HR CC μ0 Mt0 w0 H0) (hp : Post CC μ0 Mt0 w0 H0 μ Mt w H) {l : Nat} (hm : μ H0.length 0 = some (l, 0)) {st : LoopState} {pend : Option Ex} {t : List V} {ps : List Nat} {ax ay : ACode}
    (hH : H[H0.length]? = some (.loop st pend t ps ax ay)) (hst : st ≠ .busy) {fr : List V} {a : Act} (hf : FR μ Mt w fr a.tmps) {ds : List Deferred} (hmk : Marks w0.heap.size μ w a.defers ds) :
    ∃ r w', (Instr.endLoop l).run P w = .ok r w' ∧ compStOk st pend r ∧ CRes CC μ0 Mt0 w0 H0 ds fr (trim H0.length fr (H.set H0.length .dead)) a w' := by
  obtain ⟨o, ho, hr⟩ := hp.hr.objs _ _ 0 _ _ hH rfl hm
  cases o <;> first | exact hr.elim | skip
  rename_i r
  obtain ⟨_, h1, h2, h3, h4, h5, h6⟩ := hr
  subst h1
  have hrun := run_endLoop (P := P) ho hst
  have p1 : Post CC μ Mt w H (updM μ H0.length 0 (l, 0)) Mt (w.putObj l (.loop { r with state := .exhausted })) (H.set H0.length .dead) :=
    post_set hp.hr 0 0 hH rfl hm ho (fun _ _ _ e => by cases e) (fun _ _ => ⟨_, rfl⟩) (.inl ⟨rfl, rfl⟩) (fun j hj => hj.elim) (fun _ _ e => by cases e) rfl rfl rfl rfl trivial (fun hc => hc.elim)
  have hpp := hp.trans p1
  have hidl : H0.length < H.length := (List.getElem?_eq_some_iff.1 hH).1
  obtain ⟨μ2, p2, f2, s2, _⟩ := trim_post hpp h0.dom (Nat.le_refl _) (by simp; omega) (hf.post hp.hr p1)
  refine ⟨_, _, hrun, h2, μ2, Mt, p2, f2, ?_⟩
  exact (hmk.trans p1 hp.tr.size (Marks.refl _ _ _ _)).sub s2

/-- **CODE.** -/
theorem evC_sim (hs : SimCall P (CodeR P pure') call) (hmix : P.follows .mixedOrders = true) (nn base : Nat) {c : Code} {ac : ACode} (hc : CodeR P pure' c ac) :
    ∀ (ro : Option Nat) (n : Nat), SimC P (CodeR P pure') ro n c (evC call (fun b k m => iterN b k m nn) base ac) := by
  have rows : ∀ (id : Nat) (ops : Array Oper) (draw : Bool) (l : List AOper) (chk : List (Nat × Nat)) (kill : List Nat), RegR P pure' ops l → (draw = true → okOrder (Region.before ops).toList chk l = true ∧ backB ops = true) →
      ∀ (ro : Option Nat) (n : Nat), SimC P (CodeR P pure') ro n (.region id ops draw) (evC call (fun b k m => iterN b k m nn) base (.region l chk kill)) := by
    intro id ops draw l chk kill hr hd
    intro ro n fr H e fr' H' hev μ Mt w a Q h hf hro hQ
    simp only [evC] at hev
    split at hev
    · rename_i fr1 H1 h1
      split at hev
      · rename_i hchk
        cases hev
        cases draw with
        | false =>
          refine wpIn_region ?_
          have := reg_text (Q := Q) (ro := ro) (n := n) hs hr ops.size 0 fr H a w μ Mt (by omega) h hf (by simpa using h1) (fun a' w' hq => hQ a' w' (CRes.of_reg kill hq))
          simpa using this
        | true =>
          obtain ⟨ho, hb⟩ := hd rfl
          obtain ⟨F, G, val, a1, a2, a3, a4, a5⟩ := evOps_trace _ _ _ _ _ h1
          have R : Row P pure' call base ops l chk fr _ H H' F G val := ⟨hr, ho, hb, a1, a2, a3, a4, a5, hchk, hs.floor⟩
          refine wpIn_region_any hmix ?_
          have p1 : Post (CodeR P pure') μ Mt w H μ Mt { w with drawn := w.drawn + 1 } H := post_drew h rfl rfl rfl rfl
          have hrep : ∀ k, (Array.replicate ops.size false).getD k false = false := by
            intro k
            by_cases hk : k < ops.size <;> simp [hk]
          refine reg_any R hs h ops.size _ a _ μ Mt 0 (by simp [hr.1]) ?_ ?_ (Nat.zero_le _) (fun k hk => by omega) (fun k _ _ _ => hrep k) (by rw [a2]; exact p1) ?_ rfl (fun a' w' hq => hQ a' w' (CRes.of_reg kill hq))
          · unfold unlisted
            refine Nat.le_trans List.countP_le_length ?_
            simp [hr.1]
          · intro j hj
            exact absurd ((hrep j).symm.trans hj) (by simp)
          · have : (SF (dstOf l) val fr l.length fun k => (Array.replicate ops.size false).getD k false) = fr := by
              refine getD_ext SF_length fun s hs => ?_
              rw [SF_length] at hs
              rw [SF_getD, if_pos hs, lw_reads (i := 0) l.length fun k _ _ => ?_]
              · simp [lw]
              · rw [hrep k]; simp
            rw [this]
            exact hf.post h p1
      · cases hev
    · cases hev
  induction hc with
  | skip =>
    intro ro n fr H e fr' H' hev μ Mt w a Q h hf hro hQ
    simp only [evC] at hev; cases hev
    exact wpIn_skip (hQ a w (CRes.refl h hf))
  | label l =>
    intro ro n fr H e fr' H' hev μ Mt w a Q h hf hro hQ
    simp only [evC] at hev; cases hev
    exact wpIn_label (hQ a w (CRes.refl h hf))
  | exit id =>
    intro ro n fr H e fr' H' hev μ Mt w a Q h hf hro hQ
    simp only [evC] at hev; cases hev
    exact wpIn_exit (hQ a w (CRes.refl h hf))
  | ret =>
    intro ro n fr H e fr' H' hev μ Mt w a Q h hf hro hQ
    simp only [evC] at hev; cases hev
    exact wpIn_ret (hQ a w (CRes.refl h hf))
  | region id ops draw l chk kill hr hd => exact rows id ops draw l chk kill hr hd
  | regionE id ops draw l kill outs hr hd =>
    intro ro n fr H e fr' H' hev
    simp only [evC] at hev
    split at hev
    · rename_i f2 h2
      cases hev
      obtain ⟨f1, h1, rfl⟩ := evTale_ev (call := call) (base := base) h2
      exact rows id ops draw l [] kill hr hd ro n fr _ .nrm _ _ (by simp only [evC, h1]; rfl)
    · cases hev
  | seq x y ax ay _ _ ihx ihy =>
    intro ro n fr H e fr' H' hev μ Mt w a Q h hf hro hQ
    simp only [evC] at hev
    refine wpIn_seq ?_
    split at hev
    · rename_i fr1 H1 h1
      refine ihx ro n _ _ _ _ _ h1 μ Mt w a _ h hf hro ?_
      rintro a1 w1 ⟨μ1, Mt1, p1, f1, m1⟩
      refine ihy ro n _ _ _ _ _ hev μ1 Mt1 w1 a1 Q p1.hr f1 (fun l hl => ?_) (fun a2 w2 h2 => hQ a2 w2 (CRes.trans p1 m1 h2))
      obtain ⟨r, hr⟩ := hro l hl
      exact p1.tr.loops l r hr
    · rename_i hne
      refine ihx ro n _ _ _ _ _ hev μ Mt w a _ h hf hro ?_
      intro a1 w1 h1
      have := hQ a1 w1 h1
      cases e with
      | nrm => exact (hne _ _ hev).elim
      | ext id => exact this
      | ret => exact this
  | cond c o x y ax ay hco _ _ ihx ihy =>
    intro ro n fr H e fr' H' hev μ Mt w a Q h hf hro hQ
    simp only [evC] at hev
    have hv := opd_vr hf hco
    split at hev
    · rename_i he
      rw [he] at hv
      exact wpIn_cond_true (vr_s hv) (ihx ro n _ _ _ _ _ hev μ Mt w a Q h hf hro hQ)
    · rename_i he
      rw [he] at hv
      exact wpIn_cond_false (vr_s hv) (ihy ro n _ _ _ _ _ hev μ Mt w a Q h hf hro hQ)
    · cases hev
  | block id c x _ ih =>
    intro ro n fr H e fr' H' hev μ Mt w a Q h hf hro hQ
    simp only [evC] at hev
    refine wpIn_block ?_
    split at hev
    · rename_i id' fr1 H1 h1
      cases hev
      refine ih ro n _ _ _ _ _ h1 μ Mt w a _ h hf hro ?_
      intro a1 w1 hr
      have := hQ a1 w1 hr
      show (if id' = id then Q .normal a1 w1 else Q (.exit id') a1 w1)
      split
      · rename_i hid; rw [if_pos hid] at this; exact this
      · rename_i hid; rw [if_neg hid] at this; exact this
    · rename_i hne
      refine ih ro n _ _ _ _ _ hev μ Mt w a _ h hf hro ?_
      intro a1 w1 hr
      have := hQ a1 w1 hr
      cases e with
      | nrm => exact this
      | ext id' => exact (hne _ _ _ hev).elim
      | ret => exact this
  | loop c kill x _ ih =>
    intro ro n fr H e fr' H' hev μ Mt w a Q h hf hro hQ
    simp only [evC] at hev
    refine wpIn_loop_rounds nn ?_
    exact loop_sim (ih ro n) kill H.length nn _ H e fr' H' hev μ Mt w a Q μ Mt w H a.defers h (Nat.le_refl _) (Nat.le_refl _) (Post.refl h) (Marks.refl _ _ _ _) (hf.kill kill) hro hQ
  | rangeFunc f o ps x y ax ay hco hx hy _ _ =>
    intro ro n fr H e fr' H' hev μ Mt w a Q h hf hro hQ
    simp only [evC] at hev
    have hv := opd_vr hf hco
    split at hev
    case h_2 => cases hev
    rename_i k u z he
    rw [he] at hv
    refine wpIn_rangeFunc ?_
    intro fn _
    obtain ⟨l, mark, w1, μ1, Mt1, hen, p1, hm1, mk1⟩ := enter_sim h hf hro fn ps hx hy
    have hv1 := p1.vr h hv
    split at hev
    case h_2 => cases hev
    rename_i rv H2 hcl
    generalize hfc : a.eval f = fc at hv1
    cases hv1 with
    | fn _ _ _ fst' cap' h1 h2 h3 h4 =>
      obtain ⟨hent, hcall⟩ := hs.fn k u z _ base _ rv H2 hcl
      have hvs : VRs μ1 Mt1 w1 (u ++ [.yld H.length] ++ z) (fst' ++ #[Value.func (.yield l) #[] #[]] ++ cap').toList := by
        have hu : VRs μ1 Mt1 w1 u fst'.toList := ⟨by simpa using h1, fun i p q hp hq => h3 i p q hp (by simpa using hq)⟩
        have hz : VRs μ1 Mt1 w1 z cap'.toList := ⟨by simpa using h2, fun i p q hp hq => h4 i p q hp (by simpa using hq)⟩
        have hy : VRs μ1 Mt1 w1 [.yld H.length] [Value.func (.yield l) #[] #[]] := ⟨rfl, fun i p q hp hq => by
          cases i with
          | zero => simp at hp hq; subst hp; subst hq; exact .yld _ _ hm1
          | succ i => simp at hp⟩
        simpa using (hu.append hy).append hz
      have hcc := hcall μ1 Mt1 w1 _ p1.hr hvs (n - 1)
      simp only [Array.toArray_toList] at hcc
      refine ⟨l, mark, w1, ⟨.fn (.func k) cap', fst' ++ #[Value.func (.yield l) #[] #[]]⟩, w1, k, fst' ++ #[Value.func (.yield l) #[] #[]] ++ cap', w1, hen, ?_, fun _ _ => trivial, ?_, fun h => by simp [Fw] at h, ?_⟩
      · have e1 : a.eval (.const (.func (.yield l) #[] #[])) = Value.func (.yield l) #[] #[] := rfl
        simp only [resolve, rangeCall, hfc, Deferred.ofValue, Sem.run_pure, List.map_toArray, List.map_cons, List.map_nil, e1]
      · simp only [invoke, hent]
      · refine CallsIn.mono hcc ?_
        rintro e3 w3 ⟨c3, μ3, Mt3, rfl, _, p3⟩
        have hm3 := p3.ext _ _ _ hm1
        have pp := p1.trans p3
        have mk3 : Marks w.heap.size μ3 w3 (mark ++ a.defers) a.defers := mk1.trans p3 p1.tr.size (Marks.refl _ _ _ _)
        have hf3 : FR μ3 Mt3 w3 fr a.tmps := hf.post h pp
        split at hev
        · rename_i hH
          cases hev
          obtain ⟨r, w4, hrun, hok, hres⟩ := leave_sim (P := P) (a := { a with defers := mark ++ a.defers }) h pp hm3 hH (by simp) hf3 mk3
          refine ⟨r, w4, hrun, ?_⟩
          cases r with
          | none => exact hQ _ _ hres
          | some c => simp [compStOk] at hok
        · rename_i e' hH
          cases hev
          obtain ⟨r, w4, hrun, hok, hres⟩ := leave_sim (P := P) (a := { a with defers := mark ++ a.defers }) h pp hm3 hH (by simp) hf3 mk3
          refine ⟨r, w4, hrun, ?_⟩
          cases e with
          | nrm => exact hok.elim
          | ext id =>
            have hok : r = some (.exit id) := hok
            subst hok
            exact wpIn_exit (hQ _ _ hres)
          | ret =>
            have hok : r = some .ret := hok
            subst hok
            exact wpIn_ret (hQ _ _ hres)
        · cases hev
end
end Go.AM
