/- Texts of the proof: Am18, Am19, Am20, Am21, Am22, Am23, AmS, AmT, AmF, AmK, AmG, AmL, AmQ0, AmQ, AmW. -/
import Derived.Test.YtgimjihhlhjejaaP0
import Derived.Test.YtgimjihhlhjejaaP1
import Derived.RangeFuncNested
import Derived.Laws.Sem
import Derived.Shelf.Abstract
import Derived.ProofKit
import Derived.ReadAgain
import Derived.Laws.BitsLemmas
import Derived.Shelf.Sort.Plain
import Derived.Shelf.SlIterI.Nil
import Derived.Shelf.SlMaps.Clone
import Derived.Shelf.Spec.TrailingZeros
set_option linter.all false
namespace Go.AM
open Go.RowKit
section
variable {call : CallF} {base : Nat}
def Floor (base : Nat) (H H' : Heap) : Prop := H.length ≤ H'.length ∧ ∀ id, id < base → id < H.length → H'[id]? = H[id]?
theorem Floor.refl (base : Nat) (H : Heap) : Floor base H H := ⟨Nat.le_refl _, fun _ _ _ => rfl⟩
theorem Floor.trans {A B C : Heap} (h : Floor base A B) (k : Floor base B C) : Floor base A C :=
  ⟨Nat.le_trans h.1 k.1, fun id h1 h2 => (k.2 id h1 (Nat.lt_of_lt_of_le h2 h.1)).trans (h.2 id h1 h2)⟩
theorem trim_keep {m : Nat} {fr : List V} {H : Heap} (hm : m ≤ H.length) : m ≤ (trim m fr H).length ∧ ∀ id, id < m → (trim m fr H)[id]? = H[id]? := by
  unfold trim
  split
  · refine ⟨by simp; omega, fun id h => by rw [List.getElem?_take_of_lt h]⟩
  · exact ⟨hm, fun _ _ => rfl⟩
theorem evOps_floor (hfl : ∀ v args base H r H', call v args base H = some (r, H') → H.length ≤ H'.length ∧ ∀ id, id < base → id < H.length → H'[id]? = H[id]?) : ∀ (l : List AOper) {fr fr' : List V} {H H' : Heap}, evOps call base l fr H = some (fr', H') → Floor base H H' := by
  intro l
  induction l with
  | nil => intro fr fr' H H' h; cases h; exact .refl _ _
  | cons o l ih =>
    intro fr fr' H H' h
    simp only [evOps] at h
    split at h
    · cases h
    · exact ih h
    · split at h
      · rename_i v H1 hop; exact Floor.trans (evOp_floor hfl hop) (ih h)
      · cases h
theorem iterN_floor {b : List V → Heap → Option St} (hb : ∀ fr H e fr' H', b fr H = some (e, fr', H') → Floor base H H') (kill : List Nat) (m : Nat) : ∀ (k : Nat) {fr : List V} {H : Heap} {e : Ex} {fr' : List V} {H' : Heap}, m ≤ H.length →
    iterN b kill m k fr H = some (e, fr', H') → m ≤ H'.length ∧ ∀ id, id < base → id < m → H'[id]? = H[id]? := by
  intro k
  induction k with
  | zero => intro fr H e fr' H' _ h; simp [iterN] at h
  | succ k ih =>
    intro fr H e fr' H' hm h
    simp only [iterN] at h
    split at h
    · rename_i fr1 H1 h1
      have f := hb _ _ _ _ _ h1
      obtain ⟨t1, t2⟩ := trim_keep (fr := killS kill fr1) (Nat.le_trans hm f.1)
      obtain ⟨r1, r2⟩ := ih t1 h
      exact ⟨r1, fun id h1 h2 => (r2 id h1 h2).trans ((t2 id h2).trans (f.2 id h1 (Nat.lt_of_lt_of_le h2 hm)))⟩
    · rename_i e1 fr1 H1 _ h1
      cases h
      have f := hb _ _ _ _ _ h1
      obtain ⟨t1, t2⟩ := trim_keep (fr := killS kill fr1) (Nat.le_trans hm f.1)
      exact ⟨t1, fun id h1 h2 => (t2 id h2).trans (f.2 id h1 (Nat.lt_of_lt_of_le h2 hm))⟩
    · cases h
theorem evC_floor (hfl : ∀ v args base H r H', call v args base H = some (r, H') → H.length ≤ H'.length ∧ ∀ id, id < base → id < H.length → H'[id]? = H[id]?) (nn : Nat) (c : ACode) : ∀ {fr : List V} {H : Heap} {e : Ex} {fr' : List V} {H' : Heap}, evC call (fun b k m => iterN b k m nn) base c fr H = some (e, fr', H') → Floor base H H' := by
  induction c with
  | skip => intro fr H e fr' H' h; simp only [evC] at h; cases h; exact .refl _ _
  | region ops chk kill =>
    intro fr H e fr' H' h
    simp only [evC] at h
    split at h
    · rename_i fr1 H1 h1
      split at h
      · cases h; exact evOps_floor hfl ops h1
      · cases h
    · cases h
  | regionE ops kill outs =>
    intro fr H e fr' H' h
    simp only [evC] at h
    split at h
    · cases h; exact .refl _ _
    · cases h
  | seq a b iha ihb =>
    intro fr H e fr' H' h
    simp only [evC] at h
    split at h
    · rename_i fr1 H1 h1; exact (iha h1).trans (ihb h)
    · exact iha h
  | cond c a b iha ihb =>
    intro fr H e fr' H' h
    simp only [evC] at h
    split at h
    · exact iha h
    · exact ihb h
    · cases h
  | block id c ih =>
    intro fr H e fr' H' h
    simp only [evC] at h
    split at h
    · rename_i id' fr1 H1 h1; cases h; exact ih h1
    · exact ih h
  | loop kill c ih =>
    intro fr H e fr' H' h
    simp only [evC] at h
    obtain ⟨h1, h2⟩ := iterN_floor (fun fr H e fr' H' h => ih h) kill H.length nn (Nat.le_refl _) h
    exact ⟨h1, fun id a b => h2 id a b⟩
  | rangeFunc f ps a b _ _ =>
    intro fr H e fr' H' h
    have fin : ∀ (H2 : Heap) (v : V) (x : V), call x [.yld H.length] base (H ++ [.loop .ready none fr ps a b]) = some (v, H2) → Floor base H (trim H.length fr (H2.set H.length .dead)) := by
      intro H2 v x hc
      obtain ⟨f1, f2⟩ := hfl _ _ _ _ _ _ hc
      simp only [List.length_append, List.length_cons, List.length_nil] at f1 f2
      obtain ⟨t1, t2⟩ := trim_keep (m := H.length) (fr := fr) (H := H2.set H.length .dead) (by simp; omega)
      refine ⟨t1, fun id h1 h2 => (t2 id h2).trans ?_⟩
      rw [List.getElem?_set_ne (by omega), f2 id h1 (by omega), List.getElem?_append_left h2]
    simp only [evC] at h
    split at h
    · split at h
      · rename_i v H2 hc
        split at h
        · cases h; exact fin _ _ _ hc
        · cases h; exact fin _ _ _ hc
        · cases h
      · cases h
    · cases h
  | exit id => intro fr H e fr' H' h; simp only [evC] at h; cases h; exact .refl _ _
  | ret => intro fr H e fr' H' h; simp only [evC] at h; cases h; exact .refl _ _
end
section
variable {μ μ' : Mu} {Mt Mt' : Nat → Prop} {w w' : World} {H H' : Heap} {P : Program} {pure' : PX} {call : CallF}
theorem CRes.of_reg {CC : CX} {ds : List Deferred} {fr' : List V} {a' : Act} (kill : List Nat) (h : RegQ CC μ Mt w H ds fr' H' a' w') : CRes CC μ Mt w H ds (killS kill fr') H' a' w' := by
  obtain ⟨μ', Mt', h1, h2, h3⟩ := h
  exact ⟨μ', Mt', h1, h2.kill kill, by rw [h3]; exact Marks.refl _ _ _ _⟩
theorem CRes.refl {CC : CX} (h : HR CC μ Mt w H) {a : Act} {fr : List V} (hf : FR μ Mt w fr a.tmps) : CRes CC μ Mt w H a.defers fr H a w := ⟨μ, Mt, Post.refl h, hf, Marks.refl _ _ _ _⟩
theorem enter_sim (h : HR (CR P pure') μ Mt w H) {a : Act} {fr : List V} (hf : FR μ Mt w fr a.tmps) {ro : Option Nat} (hro : ∀ l, ro = some l → ∃ r, w.heap[l]? = some (.loop r)) (fn : FuncId) (ps : Array Tmp) {x y : Code} {ax ay : ACode}
    (hx : CodeR P pure' x ax) (hy : CodeR P pure' y ay) :
    ∃ l mark w1 μ1 Mt1, (Instr.enterLoop fn a.tmps ps x y ro).run P w = .ok (l, mark) w1 ∧ Post (CR P pure') μ Mt w H μ1 Mt1 w1 (H ++ [.loop .ready none fr ps.toList ax ay]) ∧ μ1 H.length 0 = some (l, 0) ∧ Marks w.heap.size μ1 w1 (mark ++ a.defers) a.defers := by
  have mk : ∀ {w1 : World} {Mt1 : Nat → Prop} (D : Nat), HR (CR P pure') μ Mt1 w1 H → VRs μ Mt1 w1 fr a.tmps.toList → ObR (CR P pure') μ Mt1 w1 (.loop .ready none fr ps.toList ax ay) 0 (.loop { state := .ready, pending := none, fn, tmps := a.tmps, params := ps, assign := x, body := y, defers := D }) :=
    fun D _ hv => ⟨rfl, rfl, rfl, hv, rfl, hx, hy⟩
  cases ro with
  | none =>
    have p1 : Post (CR P pure') μ Mt w H μ Mt (w.alloc (.deferred (some []))) H := post_ghost h _ rfl rfl rfl rfl
    have p2 := post_push p1.hr (.loop { state := .ready, pending := none, fn, tmps := a.tmps, params := ps, assign := x, body := y, defers := w.heap.size }) (.loop .ready none fr ps.toList ax ay) (mk _ p1.hr (p1.vrs h hf)) (w' := (w.alloc (.deferred (some []))).alloc (.loop { state := .ready, pending := none, fn, tmps := a.tmps, params := ps, assign := x, body := y, defers := w.heap.size })) rfl rfl rfl rfl
    refine ⟨_, _, _, _, _, run_enterLoop_outer fn a.tmps ps x y, p1.trans p2, ?_, ?_⟩
    · have : (w.alloc (.deferred (some []))).heap.size = w.heap.size + 1 := World.size_alloc ..
      rw [this]; exact updM_same _ _ _ _
    · refine ⟨[w.heap.size], rfl, by simp, fun D hD => ?_⟩
      simp at hD
      subst hD
      have hs : (w.alloc (.deferred (some []))).heap.size = w.heap.size + 1 := World.size_alloc ..
      have h1 : (w.alloc (.deferred (some []))).heap[w.heap.size]? = some (.deferred (some [])) := World.alloc_heap_new ..
      refine ⟨Nat.le_refl _, (heap_push (w := w.alloc (.deferred (some []))) rfl (by rw [hs]; omega)).trans h1, fun id g b e => ?_⟩
      by_cases hc : id = H.length ∧ g = 0
      · obtain ⟨rfl, rfl⟩ := hc
        rw [updM_same] at e
        have := (Prod.mk.inj (Option.some.inj e)).1
        rw [hs] at this
        omega
      · rw [updM_other hc] at e
        have := (h.isMut _ _ _ _ e).2
        omega
  | some l0 =>
    obtain ⟨r0, hr0⟩ := hro l0 rfl
    have p2 := post_push h (.loop { state := .ready, pending := none, fn, tmps := a.tmps, params := ps, assign := x, body := y, defers := r0.defers }) (.loop .ready none fr ps.toList ax ay) (mk _ h hf) (w' := w.alloc (.loop { state := .ready, pending := none, fn, tmps := a.tmps, params := ps, assign := x, body := y, defers := r0.defers })) rfl rfl rfl rfl
    exact ⟨_, _, _, _, _, run_enterLoop_inner hr0 fn a.tmps ps x y, p2, updM_same _ _ _ _, Marks.refl _ _ _ _⟩
theorem leave_sim {μ0 : Mu} {Mt0 : Nat → Prop} {w0 : World} {H0 : Heap} {CC : CX} (h0 : HR CC μ0 Mt0 w0 H0) (hp : Post CC μ0 Mt0 w0 H0 μ Mt w H) {l : Nat} (hm : μ H0.length 0 = some (l, 0)) {st : LoopState} {pend : Option Ex} {t : List V} {ps : List Nat} {ax ay : ACode}
    (hH : H[H0.length]? = some (.loop st pend t ps ax ay)) (hst : st ≠ .busy) {fr : List V} {a : Act} (hf : FR μ Mt w fr a.tmps) {ds : List Deferred} (hmk : Marks w0.heap.size μ w a.defers ds) :
    ∃ r w', (Instr.endLoop l).run P w = .ok r w' ∧ compStOk st pend r ∧ CRes CC μ0 Mt0 w0 H0 ds fr (trim H0.length fr (H.set H0.length .dead)) a w' := by
  obtain ⟨o, ho, hr⟩ := hp.hr.objs _ _ 0 _ _ hH rfl hm
  cases o <;> first | exact hr.elim | skip
  rename_i r
  obtain ⟨_, h1, h2, h3, h4, h5, h6⟩ := hr
  subst h1
  have hrun := run_endLoop (P := P) ho hst
  have p1 : Post CC μ Mt w H (updM μ H0.length 0 (l, 0)) Mt (w.putObj l (.loop { r with state := .exhausted })) (H.set H0.length .dead) :=
    post_set hp.hr 0 0 hH rfl hm ho (fun _ _ _ e => by cases e) (fun _ _ => ⟨_, rfl⟩) (.inl ⟨rfl, rfl⟩) (fun j hj => hj.elim) (fun _ _ e => by cases e) rfl rfl rfl rfl trivial (fun hc => hc.elim)
  have hpp := hp.trans p1
  have hidl : H0.length < H.length := (List.getElem?_eq_some_iff.1 hH).1
  obtain ⟨μ2, p2, f2, s2, _⟩ := trim_post hpp h0.dom (Nat.le_refl _) (by simp; omega) (hf.post hp.hr p1)
  refine ⟨_, _, hrun, h2, μ2, Mt, p2, f2, ?_⟩
  exact (hmk.trans p1 hp.tr.size (Marks.refl _ _ _ _)).sub s2
theorem evC_sim (hs : SimCall P (CR P pure') call) (hmix : P.follows .mixedOrders = true) (nn base : Nat) {c : Code} {ac : ACode} (hc : CodeR P pure' c ac) :
    ∀ (ro : Option Nat) (n : Nat), SimC P (CR P pure') ro n c (evC call (fun b k m => iterN b k m nn) base ac) := by
  have rows : ∀ (id : Nat) (ops : Array Oper) (draw : Bool) (l : List AOper) (chk : List (Nat × Nat)) (kill : List Nat), RegR P pure' ops l → (draw = true → okOrd (Region.before ops).toList chk l = true ∧ backB ops = true) →
      ∀ (ro : Option Nat) (n : Nat), SimC P (CR P pure') ro n (.region id ops draw) (evC call (fun b k m => iterN b k m nn) base (.region l chk kill)) := by
    intro id ops draw l chk kill hr hd
    intro ro n fr H e fr' H' hev μ Mt w a Q h hf hro hQ
    simp only [evC] at hev
    split at hev
    · rename_i fr1 H1 h1
      split at hev
      · rename_i hchk
        cases hev
        cases draw with
        | false =>
          refine wpIn_region ?_
          have := reg_text (Q := Q) (ro := ro) (n := n) hs hr ops.size 0 fr H a w μ Mt (by omega) h hf (by simpa using h1) (fun a' w' hq => hQ a' w' (CRes.of_reg kill hq))
          simpa using this
        | true =>
          obtain ⟨ho, hb⟩ := hd rfl
          obtain ⟨F, G, val, a1, a2, a3, a4, a5⟩ := evOps_trace _ _ _ _ _ h1
          by_cases hoA : okOrder (Region.before ops).toList chk l = true
          case neg =>
            have hoA : okOrder (Region.before ops).toList chk l = false := by simpa using hoA
            simp only [okOrd, hoA, Bool.false_or, Bool.and_eq_true] at ho
            have R : RowA P pure' call base ops l fr _ H H' F G val := ⟨hr, ho.2, hb, a1, a2, a3, a4, a5, hs.floor⟩
            refine wpIn_region_any hmix ?_
            have p1 : Post (CR P pure') μ Mt w H μ Mt { w with drawn := w.drawn + 1 } H := post_drew h rfl rfl rfl rfl
            have hrep : ∀ k, (Array.replicate ops.size false).getD k false = false := by
              intro k
              by_cases hk : k < ops.size <;> simp [hk]
            have hno : (fun k => (Array.replicate ops.size false).getD k false) = fun _ => false := funext hrep
            have hSF : (SF (dstOf l) val fr l.length fun k => (Array.replicate ops.size false).getD k false) = fr := by
              refine getD_ext SF_length fun s hs => ?_
              rw [SF_length] at hs
              rw [SF_getD, if_pos hs, lw_reads (i := 0) l.length fun k _ _ => ?_]
              · simp [lw]
              · rw [hrep k]; simp
            have hrn := (R.lens (Nat.zero_le l.length) (Nat.le_refl _))
            have hA0 : ∀ id, id < H.length → (R.A 0)[id]? = H[id]? := fun id hid => by
              have := R.A_lt (j := 0) (id := id) (by rw [a2]; exact hid)
              rw [a2] at this; exact this
            have h0v : ∀ s, VW H.length (fr.getD s .unk) := fun s => (hf.getD s).vw h.dom
            have p2 : Post (CR P pure') μ Mt w H μ Mt { w with drawn := w.drawn + 1 } (R.A 0) := by
              have hl : H.length ≤ (R.A 0).length := by rw [R.A_len (Nat.zero_le _)]; rw [a2] at hrn; exact hrn
              have q := p1.hr
              refine ⟨hl, ⟨fun id g p e => Nat.lt_of_lt_of_le (q.dom _ _ _ e) hl, q.isMut, fun id ob g B b hH hc e => q.objs id ob g B b ((hA0 id (q.dom _ _ _ e)).symm.trans hH) hc e, q.inj, fun id g g' c p e hH => q.gens id g g' c p e ((hA0 id (q.dom _ _ _ e)).symm.trans hH), fun id g p ob e hH => (q.wf id g p ob e ((hA0 id (q.dom _ _ _ e)).symm.trans hH)).mono hl, q.fix, q.zero⟩, p1.ext, p1.mt, p1.tr, p1.old, p1.news⟩
            have I0 : InvA R (CR P pure') μ Mt w (fun k => (Array.replicate ops.size false).getD k false) 0 μ Mt { w with drawn := w.drawn + 1 } := by
              rw [hno]
              refine ⟨Nat.zero_le _, p2, fun k _ _ => ⟨fun h => (by cases h), fun h => absurd h (Nat.not_lt_zero _)⟩, fun id g q e hid => ?_, fun k _ hS => (by cases hS), fun m _ hS => (by cases hS), fun id g q ob e hob j hj _ hid => ?_⟩
              · have := h.dom _ _ _ e; omega
              · have hd := h.dom _ _ _ e
                have hj0 := R.lens (Nat.zero_le j) hj
                rw [a2] at hj0
                rw [hA0 id hd] at hob
                exact (h.wf id g q ob e hob).mono hj0
            refine reg_anyA R hs h0v ops.size _ a _ μ Mt 0 (by simp [hr.1]) ?_ ?_ I0 (by rw [hSF]; exact hf.post h p1) rfl (fun a' w' hq => hQ a' w' (CRes.of_reg kill hq))
            · unfold unlisted
              refine Nat.le_trans List.countP_le_length ?_
              simp [hr.1]
            · intro j hj
              exact absurd ((hrep j).symm.trans hj) (by simp)
          have ho := hoA
          have R : Row P pure' call base ops l chk fr _ H H' F G val := ⟨hr, ho, hb, a1, a2, a3, a4, a5, hchk, hs.floor⟩
          refine wpIn_region_any hmix ?_
          have p1 : Post (CR P pure') μ Mt w H μ Mt { w with drawn := w.drawn + 1 } H := post_drew h rfl rfl rfl rfl
          have hrep : ∀ k, (Array.replicate ops.size false).getD k false = false := by
            intro k
            by_cases hk : k < ops.size <;> simp [hk]
          refine reg_any R hs h ops.size _ a _ μ Mt 0 (by simp [hr.1]) ?_ ?_ (Nat.zero_le _) (fun k hk => by omega) (fun k _ _ _ => hrep k) (by rw [a2]; exact p1) ?_ rfl (fun a' w' hq => hQ a' w' (CRes.of_reg kill hq))
          · unfold unlisted
            refine Nat.le_trans List.countP_le_length ?_
            simp [hr.1]
          · intro j hj
            exact absurd ((hrep j).symm.trans hj) (by simp)
          · have : (SF (dstOf l) val fr l.length fun k => (Array.replicate ops.size false).getD k false) = fr := by
              refine getD_ext SF_length fun s hs => ?_
              rw [SF_length] at hs
              rw [SF_getD, if_pos hs, lw_reads (i := 0) l.length fun k _ _ => ?_]
              · simp [lw]
              · rw [hrep k]; simp
            rw [this]
            exact hf.post h p1
      · cases hev
    · cases hev
  induction hc with
  | skip =>
    intro ro n fr H e fr' H' hev μ Mt w a Q h hf hro hQ
    simp only [evC] at hev; cases hev
    exact wpIn_skip (hQ a w (CRes.refl h hf))
  | label l =>
    intro ro n fr H e fr' H' hev μ Mt w a Q h hf hro hQ
    simp only [evC] at hev; cases hev
    exact wpIn_label (hQ a w (CRes.refl h hf))
  | exit id =>
    intro ro n fr H e fr' H' hev μ Mt w a Q h hf hro hQ
    simp only [evC] at hev; cases hev
    exact wpIn_exit (hQ a w (CRes.refl h hf))
  | ret =>
    intro ro n fr H e fr' H' hev μ Mt w a Q h hf hro hQ
    simp only [evC] at hev; cases hev
    exact wpIn_ret (hQ a w (CRes.refl h hf))
  | region id ops draw l chk kill hr hd => exact rows id ops draw l chk kill hr hd
  | regionE id ops draw l kill outs hr hd =>
    intro ro n fr H e fr' H' hev
    simp only [evC] at hev
    split at hev
    · rename_i f2 h2
      cases hev
      obtain ⟨f1, h1, rfl⟩ := evTale_ev (call := call) (base := base) h2
      exact rows id ops draw l [] kill hr hd ro n fr _ .nrm _ _ (by simp only [evC, h1]; rfl)
    · cases hev
  | seq x y ax ay _ _ ihx ihy =>
    intro ro n fr H e fr' H' hev μ Mt w a Q h hf hro hQ
    simp only [evC] at hev
    refine wpIn_seq ?_
    split at hev
    · rename_i fr1 H1 h1
      refine ihx ro n _ _ _ _ _ h1 μ Mt w a _ h hf hro ?_
      rintro a1 w1 ⟨μ1, Mt1, p1, f1, m1⟩
      refine ihy ro n _ _ _ _ _ hev μ1 Mt1 w1 a1 Q p1.hr f1 (fun l hl => ?_) (fun a2 w2 h2 => hQ a2 w2 (CRes.trans p1 m1 h2))
      obtain ⟨r, hr⟩ := hro l hl
      exact p1.tr.loops l r hr
    · rename_i hne
      refine ihx ro n _ _ _ _ _ hev μ Mt w a _ h hf hro ?_
      intro a1 w1 h1
      have := hQ a1 w1 h1
      cases e with
      | nrm => exact (hne _ _ hev).elim
      | ext id => exact this
      | ret => exact this
  | cond c o x y ax ay hco _ _ ihx ihy =>
    intro ro n fr H e fr' H' hev μ Mt w a Q h hf hro hQ
    simp only [evC] at hev
    have hv := opd_vr hf hco
    split at hev
    · rename_i he
      rw [he] at hv
      exact wpIn_cond_true (vr_s hv) (ihx ro n _ _ _ _ _ hev μ Mt w a Q h hf hro hQ)
    · rename_i he
      rw [he] at hv
      exact wpIn_cond_false (vr_s hv) (ihy ro n _ _ _ _ _ hev μ Mt w a Q h hf hro hQ)
    · cases hev
  | block id c x _ ih =>
    intro ro n fr H e fr' H' hev μ Mt w a Q h hf hro hQ
    simp only [evC] at hev
    refine wpIn_block ?_
    split at hev
    · rename_i id' fr1 H1 h1
      cases hev
      refine ih ro n _ _ _ _ _ h1 μ Mt w a _ h hf hro ?_
      intro a1 w1 hr
      have := hQ a1 w1 hr
      show (if id' = id then Q .normal a1 w1 else Q (.exit id') a1 w1)
      split
      · rename_i hid; rw [if_pos hid] at this; exact this
      · rename_i hid; rw [if_neg hid] at this; exact this
    · rename_i hne
      refine ih ro n _ _ _ _ _ hev μ Mt w a _ h hf hro ?_
      intro a1 w1 hr
      have := hQ a1 w1 hr
      cases e with
      | nrm => exact this
      | ext id' => exact (hne _ _ _ hev).elim
      | ret => exact this
  | loop c kill x _ ih =>
    intro ro n fr H e fr' H' hev μ Mt w a Q h hf hro hQ
    simp only [evC] at hev
    refine wpIn_loop_rounds nn ?_
    exact loop_sim (ih ro n) kill H.length nn _ H e fr' H' hev μ Mt w a Q μ Mt w H a.defers h (Nat.le_refl _) (Nat.le_refl _) (Post.refl h) (Marks.refl _ _ _ _) (hf.kill kill) hro hQ
  | rangeFunc f o ps x y ax ay hco hx hy _ _ =>
    intro ro n fr H e fr' H' hev μ Mt w a Q h hf hro hQ
    simp only [evC] at hev
    have hv := opd_vr hf hco
    split at hev
    case h_2 => cases hev
    rename_i k u z he
    rw [he] at hv
    refine wpIn_rangeFunc ?_
    intro fn _
    obtain ⟨l, mark, w1, μ1, Mt1, hen, p1, hm1, mk1⟩ := enter_sim h hf hro fn ps hx hy
    have hv1 := p1.vr h hv
    split at hev
    case h_2 => cases hev
    rename_i rv H2 hcl
    generalize hfc : a.eval f = fc at hv1
    cases hv1 with
    | fn _ _ _ fst' cap' h1 h2 h3 h4 =>
      obtain ⟨hent, hcall⟩ := hs.fn k u z _ base _ rv H2 hcl
      have hvs : VRs μ1 Mt1 w1 (u ++ [.yld H.length] ++ z) (fst' ++ #[Value.func (.yield l) #[] #[]] ++ cap').toList := by
        have hu : VRs μ1 Mt1 w1 u fst'.toList := ⟨by simpa using h1, fun i p q hp hq => h3 i p q hp (by simpa using hq)⟩
        have hz : VRs μ1 Mt1 w1 z cap'.toList := ⟨by simpa using h2, fun i p q hp hq => h4 i p q hp (by simpa using hq)⟩
        have hy : VRs μ1 Mt1 w1 [.yld H.length] [Value.func (.yield l) #[] #[]] := ⟨rfl, fun i p q hp hq => by
          cases i with
          | zero => simp at hp hq; subst hp; subst hq; exact .yld _ _ hm1
          | succ i => simp at hp⟩
        simpa using (hu.append hy).append hz
      have hcc := hcall μ1 Mt1 w1 _ p1.hr hvs (n - 1)
      simp only [Array.toArray_toList] at hcc
      refine ⟨l, mark, w1, ⟨.fn (.func k) cap', fst' ++ #[Value.func (.yield l) #[] #[]]⟩, w1, k, fst' ++ #[Value.func (.yield l) #[] #[]] ++ cap', w1, hen, ?_, fun _ _ => trivial, ?_, fun h => by simp [Fw] at h, ?_⟩
      · have e1 : a.eval (.const (.func (.yield l) #[] #[])) = Value.func (.yield l) #[] #[] := rfl
        simp only [resolve, rangeCall, hfc, Deferred.ofValue, Sem.run_pure, List.map_toArray, List.map_cons, List.map_nil, e1]
      · simp only [invoke, hent]
      · refine CallsIn.mono hcc ?_
        rintro e3 w3 ⟨c3, μ3, Mt3, rfl, _, p3⟩
        have hm3 := p3.ext _ _ _ hm1
        have pp := p1.trans p3
        have mk3 : Marks w.heap.size μ3 w3 (mark ++ a.defers) a.defers := mk1.trans p3 p1.tr.size (Marks.refl _ _ _ _)
        have hf3 : FR μ3 Mt3 w3 fr a.tmps := hf.post h pp
        split at hev
        · rename_i hH
          cases hev
          obtain ⟨r, w4, hrun, hok, hres⟩ := leave_sim (P := P) (a := { a with defers := mark ++ a.defers }) h pp hm3 hH (by simp) hf3 mk3
          refine ⟨r, w4, hrun, ?_⟩
          cases r with
          | none => exact hQ _ _ hres
          | some c => simp [compStOk] at hok
        · rename_i e' hH
          cases hev
          obtain ⟨r, w4, hrun, hok, hres⟩ := leave_sim (P := P) (a := { a with defers := mark ++ a.defers }) h pp hm3 hH (by simp) hf3 mk3
          refine ⟨r, w4, hrun, ?_⟩
          cases e with
          | nrm => exact hok.elim
          | ext id =>
            have hok : r = some (.exit id) := hok
            subst hok
            exact wpIn_exit (hQ _ _ hres)
          | ret =>
            have hok : r = some .ret := hok
            subst hok
            exact wpIn_ret (hQ _ _ hres)
        · cases hev
end
end Go.AM
namespace Go.AM
open Go.RowKit
section
variable {CC : CX} {μ μ' : Mu} {Mt Mt' : Nat → Prop} {w w' : World} {H H' : Heap} {P : Program} {pure' : PX} {call : CallF}
theorem PR.monoC (hM : ∀ B, B < w.heap.size → Mt' B → Mt B)
    (hk : ∀ (B : Nat) (arr : Array Value) (e : TypeId) (fr : Nat × Nat), w.heap[B]? = some (.cells arr e fr) → w'.heap[B]? = w.heap[B]?) {v : V} {c : Value} (h : PR Mt w v c) : PR Mt' w' v c := by
  induction h with
  | s v => exact .s v
  | agg cs vs hl _ ih => exact .agg cs vs hl ih
  | tup cs vs hl _ ih => exact .tup cs vs hl ih
  | pref cs B o arr e fr hB hMB hs _ ih => exact .pref cs B o arr e fr ((hk B _ _ _ hB).trans hB) (fun h => hMB (hM B (lt_of_some hB) h)) hs ih
  | psl es sz B o cap arr e fr hB hMB hc hz hs _ ih => exact .psl es sz B o cap arr e fr ((hk B _ _ _ hB).trans hB) (fun h => hMB (hM B (lt_of_some hB) h)) hc hz hs ih
  | psl0 sz cap a => exact .psl0 sz cap a
  | esl a => exact .esl a
  | fn f fst cap fst' cap' hf hc _ _ ih1 ih2 => exact .fn f fst cap fst' cap' hf hc ih1 ih2
theorem VR.monoC (hM : ∀ B, B < w.heap.size → Mt' B → Mt B)
    (hk : ∀ (B : Nat) (arr : Array Value) (e : TypeId) (fr : Nat × Nat), w.heap[B]? = some (.cells arr e fr) → w'.heap[B]? = w.heap[B]?) {v : V} {c : Value} (h : VR μ Mt w v c) : VR μ Mt' w' v c := by
  induction h with
  | s v => exact .s v
  | unk v => exact .unk v
  | agg cs vs hl _ ih => exact .agg cs vs hl ih
  | tup cs vs hl _ ih => exact .tup cs vs hl ih
  | ref id g off B b hm => exact .ref id g off B b hm
  | pref cs B o arr e fr hB hMB hs h => exact .pref cs B o arr e fr ((hk B _ _ _ hB).trans hB) (fun h => hMB (hM B (lt_of_some hB) h)) hs (fun i a b ha hb => (h i a b ha hb).monoC hM hk)
  | sl id g off len sz B b cap arr e hm hB hc hs => exact .sl id g off len sz B b cap arr e hm ((hk B _ _ _ hB).trans hB) hc hs
  | sl0 id g off sz B b a hm => exact .sl0 id g off sz B b a hm
  | psl es sz B o cap arr e fr hB hMB hc hz hs h => exact .psl es sz B o cap arr e fr ((hk B _ _ _ hB).trans hB) (fun h => hMB (hM B (lt_of_some hB) h)) hc hz hs (fun i el j a b he ha hb => (h i el j a b he ha hb).monoC hM hk)
  | psl0 sz cap a => exact .psl0 sz cap a
  | esl a => exact .esl a
  | mp id B hm => exact .mp id B hm
  | fn f fst cap fst' cap' hf hc _ _ ih1 ih2 => exact .fn f fst cap fst' cap' hf hc ih1 ih2
  | yld id B hm => exact .yld id B hm
theorem ObR.monoC (hM : ∀ B, B < w.heap.size → Mt' B → Mt B)
    (hk : ∀ (B : Nat) (arr : Array Value) (e : TypeId) (fr : Nat × Nat), w.heap[B]? = some (.cells arr e fr) → w'.heap[B]? = w.heap[B]?) {ob : Ob} {b : Nat} {o : Obj} (h : ObR CC μ Mt w ob b o) : ObR CC μ Mt' w' ob b o := by
  cases ob with
  | cells g c => cases o <;> first | exact h.elim | exact ⟨h.1, h.2.1, fun i a v ha hv => (h.2.2 i a v ha hv).monoC hM hk⟩
  | map es => cases o <;> first | exact h.elim | exact ⟨h.1, h.2.1, fun i k v e he hv => ⟨(h.2.2 i k v e he hv).1, (h.2.2 i k v e he hv).2.monoC hM hk⟩⟩
  | loop st pend tmps params assign body =>
    cases o <;> first | exact h.elim | skip
    obtain ⟨h0, h1, h2, h3, h4, h5, h6⟩ := h
    exact ⟨h0, h1, h2, ⟨h3.1, fun i a b ha hb => (h3.2 i a b ha hb).monoC hM hk⟩, h4, h5, h6⟩
  | dead => cases o <;> exact h.elim
theorem post_drop {μ0 : Mu} {Mt0 : Nat → Prop} {w0 : World} {H0 : Heap} (hp : Post CC μ0 Mt0 w0 H0 μ Mt w H) {D : Nat} {x y : Option (List Deferred)} (hD : w0.heap.size ≤ D) (hd : w.heap[D]? = some (.deferred x)) (hn : ∀ id g b, μ id g ≠ some (D, b)) :
    Post CC μ0 Mt0 w0 H0 μ Mt (w.putObj D (.deferred y)) H ∧ ∀ {v : V} {c : Value}, VR μ Mt w v c → VR μ Mt (w.putObj D (.deferred y)) v c := by
  have hk : ∀ (B : Nat) (arr : Array Value) (e : TypeId) (fr : Nat × Nat), w.heap[B]? = some (.cells arr e fr) → (w.putObj D (.deferred y)).heap[B]? = w.heap[B]? := by
    intro B arr e fr hB
    refine World.putObj_heap_other (fun e => ?_)
    subst e; rw [hd] at hB; cases hB
  have hsz : (w.putObj D (.deferred y)).heap.size = w.heap.size := World.putObj_size
  have hne : ∀ K, K < w0.heap.size → (w.putObj D (.deferred y)).heap[K]? = w.heap[K]? := fun K hK => World.putObj_heap_other (by omega)
  refine ⟨⟨hp.len, ⟨hp.hr.dom, fun id g B b e => by rw [hsz]; exact hp.hr.isMut id g B b e, fun id ob g B b hH hc e => ?_, hp.hr.inj, hp.hr.gens, hp.hr.wf, fun B o e => ⟨(hk B _ _ _ (hp.hr.fix B o e).1).trans (hp.hr.fix B o e).1, (hp.hr.fix B o e).2⟩, hp.hr.zero⟩, hp.ext, hp.mt,
    ⟨by rw [hsz]; exact hp.tr.size, fun B arr e fr hB => ?_, fun B l hB => ?_, fun B hB hu => (hne B hB).trans (hp.tr.keep B hB hu), fun B arr e fr hB => ?_, hp.tr.os, hp.tr.tape, hp.tr.output⟩, hp.old, hp.news⟩, fun h => h.monoC (fun _ _ h => h) hk⟩
  · obtain ⟨o, ho, hr⟩ := hp.hr.objs id ob g B b hH hc e
    refine ⟨o, (World.putObj_heap_other (fun eq => ?_)).trans ho, hr.monoC (fun _ _ h => h) hk⟩
    subst eq
    exact hn id g b e
  · obtain ⟨arr', h1, h2⟩ := hp.tr.shape B arr e fr hB
    exact ⟨arr', (hne B (lt_of_some hB)).trans h1, h2⟩
  · obtain ⟨l', h1⟩ := hp.tr.loops B l hB
    exact ⟨l', (hne B (lt_of_some hB)).trans h1⟩
  · by_cases hBD : B = D
    · subst hBD
      rw [World.putObj_heap_same (lt_of_some hd)] at hB
      cases hB
    · rw [World.putObj_heap_other hBD] at hB
      exact hp.tr.back B arr e fr hB
theorem leaves_marks {μ0 : Mu} {Mt0 : Nat → Prop} {w0 : World} {H0 : Heap} {fn : Func} {tmps : Array Value} {fr : List V} {R : Ending → World → Prop} {n : Nat}
    (hfin : ∀ w', Post CC μ0 Mt0 w0 H0 μ Mt w' H → FR μ Mt w' fr tmps → ∃ v, (results fn tmps).run P w' = .ok v w' ∧ R (.returned v) w') :
    ∀ (L : List Nat) (w : World), Post CC μ0 Mt0 w0 H0 μ Mt w H → FR μ Mt w fr tmps → L.Nodup → (∀ D ∈ L, w0.heap.size ≤ D ∧ w.heap[D]? = some (.deferred (some [])) ∧ ∀ id g b, μ id g ≠ some (D, b)) →
      LeavesInM Fence.wide n P fn tmps R (L.map markOf) .returning w := by
  intro L
  induction L with
  | nil => intro w hp hf _ _; exact hfin w hp hf
  | cons D L ih =>
    intro w hp hf hnd hL
    obtain ⟨h1, h2, h3⟩ := hL D List.mem_cons_self
    refine ⟨by simp, .inl ⟨D, _, rfl, run_takeDeferred h2, ?_⟩⟩
    obtain ⟨p1, hv⟩ := post_drop (y := none) hp h1 h2 h3
    refine ih _ p1 ⟨hf.1, fun i a b ha hb => hv (hf.2 i a b ha hb)⟩ (List.nodup_cons.1 hnd).2 (fun E hE => ?_)
    obtain ⟨k1, k2, k3⟩ := hL E (List.mem_cons_of_mem _ hE)
    have hne : E ≠ D := fun e => by subst e; exact (List.nodup_cons.1 hnd).1 hE
    exact ⟨k1, (World.putObj_heap_other hne).trans k2, k3⟩
theorem results_list (h : HR CC μ Mt w H) {fr : List V} {tmps : Array Value} (hf : FR μ Mt w fr tmps) : ∀ (rs : List ResultVar) (ars : List ARes) (vs : List V), rs.mapM (compRes P) = some ars → ars.mapM (resV fr H) = some vs →
    ∃ cs : List Value, (rs.mapM (fun | .tmp t => pure (tmps.getD t Go.undef) | .cell a t => do loadVar t (← asAddr (tmps.getD a Go.undef)) : ResultVar → Sem Value)).run P w = .ok cs w ∧ VRs μ Mt w vs cs := by
  intro rs
  induction rs with
  | nil =>
    intro ars vs h1 h2
    simp at h1; subst h1
    simp at h2; subst h2
    exact ⟨[], by simp [Sem.run_pure], rfl, fun i a b ha => by simp at ha⟩
  | cons r rs ih =>
    intro ars vs h1 h2
    simp only [List.mapM_cons, Option.pure_def, Option.bind_eq_bind, Option.bind_eq_some_iff] at h1
    obtain ⟨a, ha, as', has, e⟩ := h1
    cases e
    simp only [List.mapM_cons, Option.pure_def, Option.bind_eq_bind, Option.bind_eq_some_iff] at h2
    obtain ⟨v, hv, vs', hvs, e⟩ := h2
    cases e
    obtain ⟨cs, hcs, hr⟩ := ih as' vs' has hvs
    have one : ∃ c, ((fun | .tmp t => pure (tmps.getD t Go.undef) | .cell a t => do loadVar t (← asAddr (tmps.getD a Go.undef)) : ResultVar → Sem Value) r).run P w = .ok c w ∧ VR μ Mt w v c := by
      cases r with
      | tmp t =>
        simp only [compRes] at ha
        cases ha
        simp only [resV] at hv
        cases hv
        exact ⟨_, rfl, hf.getD t⟩
      | cell t ty =>
        simp only [compRes, Option.map_eq_some_iff] at ha
        obtain ⟨⟨agg, k⟩, hs, e⟩ := ha
        cases e
        simp only [resV] at hv
        obtain ⟨c, h1, h2⟩ := loadV_sim (P := P) hs h (hf.getD t) hv
        refine ⟨c, ?_, h2⟩
        have hx := hf.getD t
        unfold loadV at hv
        split at hv
        · rename_i hfv
          rw [hfv] at hx
          obtain ⟨B, b, hm, hpt⟩ := vr_ref hx
          show Sem.run P (do loadVar ty (← asAddr (tmps.getD t Go.undef))) w = _
          rw [hpt] at h1 ⊢
          simpa [Instr.loadAt, Instr.sureAddr, asAddr, Sem.run_bind, Sem.run_pure] using h1
        · rename_i hfv
          rw [hfv] at hx
          obtain ⟨a', hpt, _⟩ := pref_place hx
          show Sem.run P (do loadVar ty (← asAddr (tmps.getD t Go.undef))) w = _
          rw [hpt] at h1 ⊢
          simpa [Instr.loadAt, Instr.sureAddr, asAddr, Sem.run_bind, Sem.run_pure] using h1
        · cases hv
    obtain ⟨c, hc, hvr⟩ := one
    refine ⟨c :: cs, ?_, by simpa using VRs.append (a := [v]) (c := [c]) ⟨rfl, fun i p q hp hq => by
      cases i with
      | zero => simp at hp hq; subst hp; subst hq; exact hvr
      | succ i => simp at hp⟩ hr⟩
    rw [List.mapM_cons]
    simp only [Sem.run_bind]
    rw [hc]
    simp only [Result.andThen_ok, hcs, Sem.run_pure]
theorem results_sim (h : HR CC μ Mt w H) {fr : List V} {tmps : Array Value} (hf : FR μ Mt w fr tmps) {fn : Func} {ars : List ARes} (hc : fn.results.toList.mapM (compRes P) = some ars) {r : V} (hr : resultV ars fr H = some r) :
    ∃ v, (results fn tmps).run P w = .ok v w ∧ VR μ Mt w r v := by
  unfold resultV at hr
  have main : ∀ vs, ars.mapM (resV fr H) = some vs → ∃ cs : List Value, (results fn tmps).run P w = .ok (if h : cs.toArray.size = 1 then cs.toArray[0] else .tuple cs.toArray) w ∧ VRs μ Mt w vs cs := by
    intro vs hvs
    obtain ⟨cs, h1, h2⟩ := results_list (P := P) h hf fn.results.toList ars vs hc hvs
    refine ⟨cs, ?_, h2⟩
    unfold results
    rw [Array.mapM_eq_mapM_toList]
    simp only [Sem.run_bind, map_eq_pure_bind, bind_assoc, pure_bind]
    erw [h1]
    simp only [Result.andThen_ok, Sem.run_pure]
  split at hr
  · rename_i v hvs
    cases hr
    obtain ⟨cs, h1, h2⟩ := main _ hvs
    have hl : cs.length = 1 := by have := h2.1; simp at this; exact this.symm
    match cs, hl with
    | [c], _ => exact ⟨c, by simpa using h1, h2.2 0 r c rfl rfl⟩
  · rename_i vs hne hvs
    cases hr
    obtain ⟨cs, h1, h2⟩ := main _ hvs
    have hl : cs.toArray.size ≠ 1 := by
      intro hl
      have h3 := h2.1
      simp at hl
      rw [hl] at h3
      match vs, h3 with
      | [v], _ => exact hne v rfl
    rw [dif_neg hl] at h1
    exact ⟨_, h1, .tup vs cs.toArray (by simpa using h2.1) (fun i a b ha hb => h2.2 i a b ha (by simpa using hb))⟩
  · cases hr
end
end Go.AM
namespace Go.AM
open Go.RowKit
section
variable {μ μ' : Mu} {Mt Mt' : Nat → Prop} {w w' : World} {H H' : Heap} {P : Program} {pure' : PX} {call : CallF}
def FunOk (P : Program) (pure' : PX) (k : Nat) : CFun → Prop
  | .code c => ∃ fn body, P.funcs[k]? = some fn ∧ fn.body = some body ∧ (fn.name == "runtime.NumGoroutine") = false ∧ CodeR P pure' body c.body ∧ fn.ntmps = c.ntmps ∧ fn.results.toList.mapM (compRes P) = some c.results
  | .prim g => (∀ xs w, (callFunc k xs).run P w = .ok (.enter k xs) w) ∧ ∀ vs base H r H', g vs base H = some (r, H') → Floor base H H' ∧
      ∀ μ Mt w cs, HR (CR P pure') μ Mt w H → VRs μ Mt w vs cs → ∀ n, CallsIn Fence.wide n P k cs.toArray w (RetP (CR P pure') μ Mt w H r H')
theorem setPs_sim : ∀ (ps : List Nat) (vs : List V) (cs : List Value) {fr fr' : List V} {t : Array Value}, setPs ps vs fr = some fr' → VRs μ Mt w vs cs → FR μ Mt w fr t →
    ps.length = cs.length ∧ FR μ Mt w fr' ((ps.zip cs).foldl (fun t p => t.setIfInBounds p.1 p.2) t) := by
  intro ps
  induction ps with
  | nil =>
    intro vs cs fr fr' t h hv hf
    cases vs with
    | nil =>
      cases h
      have : cs = [] := by have := hv.1; cases cs <;> simp at this ⊢
      subst this
      exact ⟨rfl, hf⟩
    | cons v vs => cases h
  | cons p ps ih =>
    intro vs cs fr fr' t h hv hf
    cases vs with
    | nil => cases h
    | cons v vs =>
      cases cs with
      | nil => have := hv.1; simp at this
      | cons c cs =>
        have hv' : VRs μ Mt w vs cs := ⟨by have := hv.1; simpa using this, fun i a b ha hb => hv.2 (i + 1) a b (by simpa using ha) (by simpa using hb)⟩
        have hf' : FR μ Mt w (fr.set p v) (t.setIfInBounds p c) := by
          have := VRs.set hf p (hv.2 0 v c rfl rfl)
          simpa [FR] using this
        obtain ⟨h1, h2⟩ := ih vs cs h hv' hf'
        exact ⟨by simp [h1], by simpa using h2⟩
theorem replicate_vr (n : Nat) : VRs μ Mt w (List.replicate n und) (List.replicate n Go.undef) :=
  ⟨by simp, fun i a b ha hb => by
    have h1 := List.mem_of_getElem? ha
    have h2 := List.mem_of_getElem? hb
    rw [List.mem_replicate] at h1 h2
    rw [h1.2, h2.2]
    exact .s _⟩
variable {CP : Nat → Option CFun}
theorem evCall_fn (hs : SimCall P (CR P pure') call) (hmix : P.follows .mixedOrders = true) (nn : Nat) (hCP : ∀ k c, CP k = some c → FunOk P pure' k c)
    {f : Nat} {fst cap args : List V} {base : Nat} {r : V} (hev : evCall CP call (fun b k m => iterN b k m nn) (.fn f fst cap) args base H = some (r, H')) :
    (∀ xs w, (callFunc f xs).run P w = .ok (.enter f xs) w) ∧ Floor base H H' ∧
    ∀ (μ : Mu) (Mt : Nat → Prop) (w : World) (cs : List Value), HR (CR P pure') μ Mt w H → VRs μ Mt w (fst ++ args ++ cap) cs → ∀ n, CallsIn Fence.wide n P f cs.toArray w (RetP (CR P pure') μ Mt w H r H') := by
  simp only [evCall] at hev
  split at hev
  · rename_i c hc
    obtain ⟨fn, body, h1, h2, h3, h4, h5, h6⟩ := hCP f _ hc
    have fin : ∀ (e : Ex) (fr' : List V) (H1 : Heap), (e = .nrm ∨ e = .ret) → evC call (fun b k m => iterN b k m nn) base c.body (fst ++ args ++ cap ++ List.replicate (c.ntmps - (fst ++ args ++ cap).length) und) H = some (e, fr', H1) →
        (resultV c.results fr' H1).map (fun v => (v, H1)) = some (r, H') → (∀ xs w, (callFunc f xs).run P w = .ok (.enter f xs) w) ∧ Floor base H H' ∧
        ∀ (μ : Mu) (Mt : Nat → Prop) (w : World) (cs : List Value), HR (CR P pure') μ Mt w H → VRs μ Mt w (fst ++ args ++ cap) cs → ∀ n, CallsIn Fence.wide n P f cs.toArray w (RetP (CR P pure') μ Mt w H r H') := by
      intro e fr' H1 he hb hres
      rw [Option.map_eq_some_iff] at hres
      obtain ⟨v, hv, e1⟩ := hres
      cases e1
      refine ⟨Go.Proofs.enters_of h1 h3 h2, evC_floor hs.floor nn _ hb, fun μ Mt w cs h hvs n => ?_⟩
      refine callsIn_of_wp_marks h1 h2 trivial ?_
      have hf0 : FR μ Mt w (fst ++ args ++ cap ++ List.replicate (c.ntmps - (fst ++ args ++ cap).length) und) (cs.toArray ++ Array.replicate (fn.ntmps - cs.toArray.size) Go.undef) := by
        unfold FR
        have := hvs.append (replicate_vr (μ := μ) (Mt := Mt) (w := w) (c.ntmps - (fst ++ args ++ cap).length))
        simp only [Array.toList_append, Array.toList_replicate, List.size_toArray, h5]
        rw [hvs.1] at this ⊢
        exact this
      refine evC_sim hs hmix nn base h4 none n _ H e fr' H' hb μ Mt w { tmps := cs.toArray ++ Array.replicate (fn.ntmps - cs.toArray.size) Go.undef, defers := [] } _ h hf0 (fun l hl => by cases hl) ?_
      rintro a' w' ⟨μ1, Mt1, p1, f1, L, hL, hnd, hLs⟩
      have key : LeavesInM Fence.wide n P fn a'.tmps (RetP (CR P pure') μ Mt w H r H') a'.defers .returning w' := by
        rw [hL, List.append_nil]
        refine leaves_marks (μ := μ1) (Mt := Mt1) (fr := fr') (fun w2 p2 f2 => ?_) L w' p1 f1 hnd hLs
        obtain ⟨cv, k1, k2⟩ := results_sim p2.hr f2 h6 hv
        exact ⟨cv, k1, cv, μ1, Mt1, rfl, k2, p2⟩
      rcases he with rfl | rfl
      · exact key
      · exact key
    split at hev
    · rename_i fr' H1 hb; exact fin .nrm fr' H1 (.inl rfl) hb hev
    · rename_i fr' H1 hb; exact fin .ret fr' H1 (.inr rfl) hb hev
    · cases hev
  · rename_i g hc
    obtain ⟨h1, h2⟩ := hCP f _ hc
    obtain ⟨h3, h4⟩ := h2 _ _ _ _ _ hev
    exact ⟨h1, h3, h4⟩
  · cases hev
theorem evCall_yld (hs : SimCall P (CR P pure') call) (hmix : P.follows .mixedOrders = true) (nn : Nat)
    {id : Nat} {args : List V} {base : Nat} {r : V} (hev : evCall CP call (fun b k m => iterN b k m nn) (.yld id) args base H = some (r, H')) :
    Floor base H H' ∧ ∀ (μ : Mu) (Mt : Nat → Prop) (w : World) (cs : List Value) (B : Nat), HR (CR P pure') μ Mt w H → VRs μ Mt w args cs → μ id 0 = some (B, 0) →
      ∃ f tmps assign body, (Instr.yield B cs.toArray).run P w = .ok (.round B f tmps assign body) w ∧ ∀ n, RoundIn Fence.wide n P B f tmps assign body w (RetP (CR P pure') μ Mt w H r H') := by
  simp only [evCall] at hev
  split at hev
  case isFalse => cases hev
  rename_i hbase
  split at hev
  case h_2 => cases hev
  rename_i tmps params assign body hH
  split at hev
  case h_2 => cases hev
  rename_i fr0 hset
  split at hev
  case h_2 => cases hev
  rename_i fr1 H1 hasg
  split at hev
  case h_2 => cases hev
  rename_i t1 ps1 as1 b1 hH1
  split at hev
  case h_2 => cases hev
  rename_i e fr2 H3 hbody
  split at hev
  case h_2 => cases hev
  rename_i t3 ps3 as3 b3 hH3
  cases hev
  have setF : ∀ (G : Heap) (o : Ob), Floor base G (G.set id o) := fun G o => ⟨by simp, fun i h1 _ => by rw [List.getElem?_set_ne (by omega)]⟩
  refine ⟨(evC_floor hs.floor nn _ hasg).trans ((setF _ _).trans ((evC_floor hs.floor nn _ hbody).trans (setF _ _))), ?_⟩
  intro μ Mt w cs B h hvs hm
  obtain ⟨o, ho, hr⟩ := h.objs _ _ 0 _ _ hH rfl hm
  cases o <;> first | exact hr.elim | skip
  rename_i rec
  obtain ⟨_, q1, q2, q3, q4, q5, q6⟩ := hr
  obtain ⟨hlen, hf0⟩ := setPs_sim params args cs hset hvs (t := rec.tmps) q3
  have hsz : cs.toArray.size = rec.params.size := by
    rw [← q4] at hlen; simpa using hlen.symm
  have hfold : (rec.params.zip cs.toArray).foldl (fun tmps (t, a) => tmps.setIfInBounds t a) rec.tmps = (params.zip cs).foldl (fun t p => t.setIfInBounds p.1 p.2) rec.tmps := by
    rw [← Array.foldl_toList, Array.toList_zip, q4]
  refine ⟨_, _, _, _, run_yield ho hsz, fun n => ?_⟩
  refine roundIn_of_wpIn (F := Fence.wide) trivial ?_
  rw [hfold]
  refine evC_sim hs hmix nn base q5 (some B) n fr0 H .nrm fr1 H1 hasg μ Mt w { tmps := (params.zip cs).foldl (fun t p => t.setIfInBounds p.1 p.2) rec.tmps, defers := [] } _ h hf0 (fun l hl => by cases hl; exact ⟨rec, ho⟩) ?_
  rintro a1 w1 ⟨μ1, Mt1, p1, f1, _⟩
  have hm1 := p1.ext _ _ _ hm
  obtain ⟨o1, ho1, hr1⟩ := p1.hr.objs _ _ 0 _ _ hH1 rfl hm1
  cases o1 <;> first | exact hr1.elim | skip
  rename_i rec1
  obtain ⟨_, s1, s2, s3, s4, s5, s6⟩ := hr1
  have hwf1 : ObW H1.length (.loop .busy none t1 ps1 as1 b1) := by have := p1.hr.wfn hH1 rfl hm1; exact this
  have p2 : Post (CR P pure') μ1 Mt1 w1 H1 (updM μ1 id 0 (B, 0)) Mt1 (w1.putObj B (.loop { rec1 with state := .busy })) (H1.set id (.loop .busy none t1 ps1 as1 b1)) := by
    refine post_set p1.hr 0 0 hH1 rfl hm1 ho1 (fun _ _ _ e => by cases e) (fun _ _ => ⟨_, rfl⟩) (.inl ⟨rfl, rfl⟩) (fun j hj => hj) (fun _ _ e => by cases e) rfl rfl rfl rfl hwf1 ?_
    intro _ μ' Mt' hμ hM
    have hne : ∀ K, K ≠ B → (w1.putObj B (.loop { rec1 with state := .busy })).heap[K]? = w1.heap[K]? := fun K hK => World.putObj_heap_other hK
    refine ⟨rfl, rfl, trivial, ?_, s4, s5, s6⟩
    refine VRs.mono hμ (fun K hK hm => (hM K hK).1 hm) (fun K _ hn => hne K (fun e => hn (e ▸ (p1.hr.isMut _ _ _ _ hm1).1))) (fun K a0 e0 fr0 hK => ?_) s3
    have : K ≠ B := fun e => by subst e; rw [ho1] at hK; cases hK
    exact ⟨a0, (hne K this).trans hK, rfl⟩
  refine ⟨_, run_beginRound ho1 s1, ?_⟩
  have pp := p1.trans p2
  have hB2 : ∃ r, (w1.putObj B (.loop { rec1 with state := .busy })).heap[B]? = some (.loop r) := ⟨_, World.putObj_heap_same (lt_of_some ho1)⟩
  refine evC_sim hs hmix nn base q6 (some B) n fr1 _ e fr2 H3 ?_ _ _ _ a1 _ p2.hr (f1.post p1.hr p2) (fun l hl => by cases hl; exact hB2) ?_
  · exact hbody
  · rintro a3 w3 ⟨μ3, Mt3, p3, _, _⟩
    have hm3 : μ3 id 0 = some (B, 0) := p3.ext _ _ _ (updM_same _ _ _ _)
    obtain ⟨o3, ho3, hr3⟩ := p3.hr.objs _ _ 0 _ _ hH3 rfl hm3
    cases o3 <;> first | exact hr3.elim | skip
    rename_i rec3
    obtain ⟨_, u1, u2, u3, u4, u5, u6⟩ := hr3
    have hwf3 : ∀ st pe, ObW H3.length (.loop st pe t3 ps3 as3 b3) := fun _ _ => by have := p3.hr.wfn hH3 rfl hm3; exact this
    have fin : ∀ (jump : Option Code), compStOk (if e = .nrm then .ready else .done) (pendOf e) jump → jump.isNone = decide (e = .nrm) → (if jump.isNone then LoopState.ready else .done) = (if e = .nrm then .ready else .done) →
        ∃ v w', (Instr.endRound B jump).run P w3 = .ok v w' ∧ RetP (CR P pure') μ Mt w H (bl (decide (e = .nrm))) (H3.set id (.loop (if e = .nrm then .ready else .done) (pendOf e) t3 ps3 as3 b3)) (.returned v) w' := by
      intro jump hok hj hst
      refine ⟨_, _, run_endRound jump ho3, _, _, _, rfl, by rw [hj]; exact .s _, (pp.trans p3).trans (post_set (g' := 0) (b' := 0) p3.hr hH3 rfl hm3 ho3 (fun _ _ _ e => by cases e) (fun _ _ => ⟨_, rfl⟩) (.inl ⟨rfl, rfl⟩) (fun j hj => hj) (fun _ _ e => by cases e) rfl rfl rfl rfl (hwf3 _ _) ?_)⟩
      intro _ μ' Mt' hμ hM
      have hne : ∀ K, K ≠ B → (w3.putObj B (.loop { rec3 with state := if jump.isNone then .ready else .done, pending := jump })).heap[K]? = w3.heap[K]? := fun K hK => World.putObj_heap_other hK
      refine ⟨rfl, hst, hok, ?_, u4, u5, u6⟩
      refine VRs.mono hμ (fun K hK hm => (hM K hK).1 hm) (fun K _ hn => hne K (fun e => hn (e ▸ (p3.hr.isMut _ _ _ _ hm3).1))) (fun K a0 e0 fr0 hK => ?_) u3
      have : K ≠ B := fun e => by subst e; rw [ho3] at hK; cases hK
      exact ⟨a0, (hne K this).trans hK, rfl⟩
    cases e with
    | nrm => exact fin none rfl rfl rfl
    | ext i => exact fin (some (.exit i)) rfl rfl rfl
    | ret => exact fin (some .ret) rfl rfl rfl
theorem evCall_sim (hs : SimCall P (CR P pure') call) (hmix : P.follows .mixedOrders = true) (nn : Nat) (hCP : ∀ k c, CP k = some c → FunOk P pure' k c) : SimCall P (CR P pure') (evCall CP call (fun b k m => iterN b k m nn)) where
  fn f fst cap args base H r H' h := by
    obtain ⟨h1, _, h3⟩ := evCall_fn hs hmix nn hCP h
    exact ⟨h1, h3⟩
  yld id args base H r H' h := (evCall_yld hs hmix nn h).2
  other v args base H h1 h2 := by
    cases v <;> first | rfl | exact absurd rfl (h1 _ _ _) | exact absurd rfl (h2 _)
  floor v args base H r H' h := by
    by_cases h1 : ∃ f a b, v = .fn f a b
    · obtain ⟨f, a, b, rfl⟩ := h1
      exact (evCall_fn hs hmix nn hCP h).2.1
    · by_cases h2 : ∃ id, v = .yld id
      · obtain ⟨id, rfl⟩ := h2
        exact (evCall_yld hs hmix nn h).1
      · exfalso
        cases v <;> first | exact h1 ⟨_, _, _, rfl⟩ | exact h2 ⟨_, rfl⟩ | (simp [evCall] at h; done)
theorem callN_sim (hmix : P.follows .mixedOrders = true) (hCP : ∀ k c, CP k = some c → FunOk P pure' k c) : ∀ n, SimCall P (CR P pure') (callN CP n)
  | 0 => ⟨fun _ _ _ _ _ _ _ _ h => (by cases h), fun _ _ _ _ _ _ h => (by cases h), fun _ _ _ _ _ _ => rfl, fun _ _ _ _ _ _ h => (by cases h)⟩
  | n + 1 => evCall_sim (callN_sim hmix hCP n) hmix n hCP
theorem callN_calls (hmix : P.follows .mixedOrders = true) (hCP : ∀ k c, CP k = some c → FunOk P pure' k c) {n k : Nat} {args : List V} {r : V} (h : callN CP n (.fn k [] []) args 0 [] = some (r, H')) {w : World} {cs : Array Value}
    (hargs : VRs (fun _ _ => none) (fun _ => False) w args cs.toList) (hfx : ∀ (B : Nat) (o : Array Value × TypeId × Nat × Nat), pure'.fx B = some o → w.heap[B]? = some (.cells o.1 o.2.1 o.2.2)) :
    Calls P k cs w fun e w' => ∃ c μ' Mt', e = .returned c ∧ VR μ' Mt' w' r c ∧ (∀ B, B < w.heap.size → w'.heap[B]? = w.heap[B]?) ∧ Tr (fun _ _ => none) w w' := by
  have h0 : HR (CR P pure') (fun _ _ => none) (fun _ => False) w [] := ⟨fun _ _ _ h => by simp at h, fun _ _ _ _ h => by simp at h, fun _ _ _ _ _ h => by simp at h, fun _ _ _ _ _ _ _ h => by simp at h, fun _ _ _ _ _ h => by simp at h, fun _ _ _ _ h => by simp at h, fun B o e => ⟨hfx B o e, fun h => h⟩, fun _ _ _ h => by simp at h⟩
  have := ((callN_sim hmix hCP n).fn k [] [] args 0 [] r H' h).2 _ _ w cs.toList h0 (by simpa using hargs) 0
  simp only [Array.toArray_toList] at this
  refine callsIn_wide.1 (CallsIn.mono this ?_)
  rintro e w' ⟨c, μ', Mt', rfl, hv, hp⟩
  exact ⟨c, μ', Mt', rfl, hv, fun B hB => hp.tr.keep B hB (fun _ _ _ h => by simp at h), hp.tr⟩
end
end Go.AM
namespace Go.AM
open Go.RowKit
section
variable {P : Program} {pure' : PX}
theorem mapM_get2 {α β : Type} {f : α → Option β} : ∀ {l : List α} {us : List β}, l.mapM f = some us → us.length = l.length ∧ ∀ (i : Nat) (v : α) (u : β), l[i]? = some v → us[i]? = some u → f v = some u := by
  intro l
  induction l with
  | nil => intro us h; simp at h; subst h; exact ⟨rfl, fun i v u h => by simp at h⟩
  | cons x l ih =>
    intro us h
    simp only [List.mapM_cons, Option.pure_def, Option.bind_eq_bind, Option.bind_eq_some_iff] at h
    obtain ⟨v, hv, us', hus, e⟩ := h
    cases e
    obtain ⟨h1, h2⟩ := ih hus
    refine ⟨by simp [h1], fun i a u ha hu => ?_⟩
    cases i with
    | zero => simp at ha hu; subst ha; subst hu; exact hv
    | succ i => exact h2 i a u (by simpa using ha) (by simpa using hu)
theorem settle_get {lt : List Nat} {bf : List Nat} {l : List AOper} {i : Nat} {a : AOper} (h : (settleCalls lt bf l)[i]? = some a) : ∃ b, l[i]? = some b ∧ (a = b ∨ (∃ f xs, b.op = .call f xs ∧ a = { b with op := .callR f xs }) ∨ ∃ k xs, b.op = .callP k xs ∧ a = { b with op := .callQ k xs }) := by
  unfold settleCalls at h
  have hi : i < l.length := by have := (List.getElem?_eq_some_iff.1 h).1; simpa using this
  have hg : l[i]? = some l[i] := List.getElem?_eq_getElem hi
  refine ⟨l[i], hg, ?_⟩
  rw [List.getElem?_map, List.getElem?_range hi] at h
  have hd : l.getD i default = l[i] := getD_of hg
  simp only [Option.map_some, hd, Option.some.injEq] at h
  split at h
  · rename_i f xs hop
    split at h
    · exact .inl h.symm
    · exact .inr (.inl ⟨f, xs, hop, h.symm⟩)
  · rename_i f xs hop
    split at h
    · exact .inl h.symm
    · exact .inr (.inr ⟨f, xs, hop, h.symm⟩)
  · exact .inl h.symm
theorem settle_length {lt : List Nat} {bf : List Nat} {l : List AOper} : (settleCalls lt bf l).length = l.length := by simp [settleCalls]
theorem compRegion_ok {lt : List Nat} {ops : Array Oper} {draw : Bool} {l : List AOper} {chk : List (Nat × Nat)} (h : compRegionL P lt pure' ops draw = some (l, chk)) :
    RegR P pure' ops l ∧ (draw = true → okOrd (Region.before ops).toList chk l = true ∧ backB ops = true) := by
  unfold compRegionL at h
  simp only [Option.bind_eq_bind, Option.bind_eq_some_iff] at h
  obtain ⟨l0, hl0, h⟩ := h
  obtain ⟨h1, h2⟩ := mapM_get2 hl0
  have one : ∀ (i : Nat) (o : Oper) (a : AOper), ops[i]? = some o → l0[i]? = some a → a.dst = o.dst ∧ (compOp2 P pure' o = some a.op ∨ a.op = .stuck) ∧ compGuard ops o.guard = some a.guard := by
    intro i o a ho ha
    have := h2 i o a (by simpa using ho) ha
    unfold compOper at this
    simp only [Option.bind_eq_bind, Option.bind_eq_some_iff, Option.pure_def, Option.some.injEq] at this
    obtain ⟨g, hg, e⟩ := this
    subst e
    refine ⟨rfl, ?_, hg⟩
    cases hop : compOp2 P pure' o with
    | none => exact .inr rfl
    | some op => exact .inl rfl
  split at h
  · rename_i hd
    have fin : ∀ c, okOrd (Region.before ops).toList c (settleCalls lt (Region.before ops).toList l0) = true → backB ops = true → RegR P pure' ops (settleCalls lt (Region.before ops).toList l0) ∧ (draw = true → okOrd (Region.before ops).toList c (settleCalls lt (Region.before ops).toList l0) = true ∧ backB ops = true) := by
      intro c hok hbk
      refine ⟨⟨by rw [settle_length, h1]; simp, fun i o a ho ha => ?_⟩, fun _ => ⟨hok, hbk⟩⟩
      obtain ⟨b, hb, e⟩ := settle_get ha
      obtain ⟨k1, k2, k3⟩ := one i o b ho hb
      rcases e with rfl | ⟨f, xs, hop, rfl⟩ | ⟨f, xs, hop, rfl⟩
      · exact ⟨k1, k2.imp id fun h => .inr (.inr h), k3⟩
      · exact ⟨k1, .inr (.inl ⟨f, xs, by rw [← hop]; exact k2.resolve_right (by rw [hop]; intro h; cases h), rfl⟩), k3⟩
      · exact ⟨k1, .inr (.inr (.inl ⟨f, xs, by rw [← hop]; exact k2.resolve_right (by rw [hop]; intro h; cases h), rfl⟩)), k3⟩
    split at h
    · rename_i hok
      simp only [Bool.and_eq_true] at hok
      simp only [Option.pure_def, Option.some.injEq] at h
      cases h
      exact fin _ (by simp [okOrd, hok.1]) hok.2
    · split at h
      · rename_i hok
        simp only [Bool.and_eq_true] at hok
        simp only [Option.pure_def, Option.some.injEq] at h
        cases h
        exact fin _ (by simp [okOrd, hok.1]) hok.2
      · cases h
  · rename_i hd
    simp only [Option.pure_def, Option.some.injEq] at h
    cases h
    refine ⟨⟨by rw [h1]; simp, fun i o a ho ha => ?_⟩, fun e => absurd e hd⟩
    obtain ⟨k1, k2, k3⟩ := one i o a ho ha
    exact ⟨k1, k2.imp id fun h => .inr (.inr h), k3⟩
theorem compC_codeR {lt : List Nat} : ∀ (c : Code) (ac : ACode), compCL P lt pure' c = some ac.bare → CodeR P pure' c ac := by
  intro c
  induction c with
  | skip => intro ac h; simp only [compCL, Option.some.injEq] at h; cases ac <;> simp only [ACode.bare] at h <;> first | exact .skip | cases h
  | exit id => intro ac h; simp only [compCL, Option.some.injEq] at h; cases ac <;> simp only [ACode.bare] at h <;> first | (cases h; done) | (cases h; exact .exit _)
  | label l => intro ac h; simp only [compCL, Option.some.injEq] at h; cases ac <;> simp only [ACode.bare] at h <;> first | exact .label _ | cases h
  | ret => intro ac h; simp only [compCL, Option.some.injEq] at h; cases ac <;> simp only [ACode.bare] at h <;> first | exact .ret | cases h
  | scope c => intro ac h; simp [compCL] at h
  | goto l => intro ac h; simp [compCL] at h
  | refuse w => intro ac h; simp [compCL] at h
  | region id ops draw =>
    intro ac h
    simp only [compCL, Option.map_eq_some_iff] at h
    obtain ⟨⟨l, chk⟩, hr, e⟩ := h
    obtain ⟨h1, h2⟩ := compRegion_ok hr
    cases ac <;> simp only [ACode.bare] at e <;> first | (cases e; done) | (cases e; exact .region _ _ _ _ _ _ h1 h2) | (cases e; exact .regionE _ _ _ _ _ _ h1 h2)
  | seq a b iha ihb =>
    intro ac h
    simp only [compCL, Option.bind_eq_bind, Option.bind_eq_some_iff, Option.pure_def, Option.some.injEq] at h
    obtain ⟨x, hx, y, hy, e⟩ := h
    cases ac <;> simp only [ACode.bare] at e <;> first | (cases e; done) | (cases e; exact .seq _ _ _ _ (iha _ hx) (ihb _ hy))
  | cond c a b iha ihb =>
    intro ac h
    simp only [compCL, Option.bind_eq_bind, Option.bind_eq_some_iff, Option.pure_def, Option.some.injEq] at h
    obtain ⟨o, ho, x, hx, y, hy, e⟩ := h
    cases ac <;> simp only [ACode.bare] at e <;> first | (cases e; done) | (cases e; exact .cond _ _ _ _ _ _ ho (iha _ hx) (ihb _ hy))
  | block id c ih =>
    intro ac h
    simp only [compCL, Option.bind_eq_bind, Option.bind_eq_some_iff, Option.pure_def, Option.some.injEq] at h
    obtain ⟨x, hx, e⟩ := h
    cases ac <;> simp only [ACode.bare] at e <;> first | (cases e; done) | (cases e; exact .block _ _ _ (ih _ hx))
  | loop c ih =>
    intro ac h
    simp only [compCL, Option.bind_eq_bind, Option.bind_eq_some_iff, Option.pure_def, Option.some.injEq] at h
    obtain ⟨x, hx, e⟩ := h
    cases ac <;> simp only [ACode.bare] at e <;> first | (cases e; done) | (cases e; exact .loop _ _ _ (ih _ hx))
  | rangeFunc f ps a b iha ihb =>
    intro ac h
    simp only [compCL, Option.bind_eq_bind, Option.bind_eq_some_iff, Option.pure_def, Option.some.injEq] at h
    obtain ⟨o, ho, x, hx, y, hy, e⟩ := h
    cases ac <;> simp only [ACode.bare] at e <;> first | (cases e; done) | (cases e; exact .rangeFunc _ _ _ _ _ _ _ ho (iha _ hx) (ihb _ hy))
def compKL (lt : List Nat) (P : Program) (pure' : PX) (k : Nat) : Option (Bool × Nat × List ARes × ACode) :=
  match P.funcs[k]? with
  | some fn => match fn.body with
    | some body => match compCL P lt pure' body, fn.results.toList.mapM (compRes P) with
      | some a, some rs => some (fn.name == "runtime.NumGoroutine", fn.ntmps, rs, a)
      | _, _ => none
    | none => none
  | none => none
abbrev compK (P : Program) (pure' : PX) (k : Nat) : Option (Bool × Nat × List ARes × ACode) := compKL [] P pure' k
theorem funOk_of {lt : List Nat} {k : Nat} {c : ACFun} (h : compKL lt P pure' k = some (false, c.ntmps, c.results, c.body.bare)) : FunOk P pure' k (.code c) := by
  unfold compKL at h
  split at h
  · rename_i fn hfn
    split at h
    · rename_i body hb
      split at h
      · rename_i a rs ha hrs
        simp only [Option.some.injEq, Prod.mk.injEq] at h
        obtain ⟨h1, h2, h3, h4⟩ := h
        exact ⟨fn, body, hfn, hb, h1, compC_codeR _ _ (by rw [ha, h4]), h2, by rw [hrs, h3]⟩
      · cases h
    · cases h
  · cases h
end
end Go.AM
namespace Go.AM
variable {CP : Nat → Option CFun}
end Go.AM
namespace Go.AM
open Go.RowKit Go.ChangeShapes Go.WideShapes Go.ChangeAt
section
variable {P : Program} {pure' : PX} {CP : Nat → Option CFun} {H : Type} {enc : TypeId × Value → H}
theorem kept_of {w w' : World} {may : MemPlace → Prop} (hk : ∀ B, B < w.heap.size → w'.heap[B]? = w.heap[B]?) (ht : Tr (fun _ _ => none) w w') : w.keptBut w' may := by
  refine ⟨ht.os, ht.output, fun i hi => ?_⟩
  rw [hk i hi]
  cases w.heap[i]? with
  | none => rfl
  | some o => cases o <;> simp
theorem post_left {f : Func} {s : ChangeSpec} {again : Bool} {W W' : World} {args : Array Value} {v : Value} {ds gs : List (DataW H)} {before : List MemPlace}
    (hW : DataW.Whole enc P f.params.toList s.vars false W args.toList ds gs before) {pa pv : List MemPlace}
    (hres : ∀ (b : Nat) (sp : Nat → Bool) (hd : Bool), DataW.TrodAll enc P W' b sp hd f.resultTypes.toList (v.resultList f.resultTypes.size) (s.fn H (ds ++ gs)).results [])
    (hargs : ∀ sp : Nat → Bool, (∀ p ∈ before, sp p.block = true) → DataW.TrodAll enc P W' 0 sp true f.params.toList args.toList (s.fn H (ds ++ gs)).args pa)
    (hvars : ∀ sp : Nat → Bool, (∀ p ∈ before, sp p.block = true) → DataW.TrodVars enc P W' sp s.vars (s.fn H (ds ++ gs)).vars pv)
    (hps : before = pa ++ pv) (hk : W.keptBut W' (· ∈ before)) (hfz : ∀ b off, MemPlace.cell b off ∈ before → W'.frozen? ⟨b, off, none⟩ = W.frozen? ⟨b, off, none⟩)
    (hok : ∀ (j : Nat) (t : TypeId) (r : Value), f.resultTypes[j]? = some t → (v.resultList f.resultTypes.size)[j]? = some r → Value.okWide P W' .any 0 t r) :
    s.post enc P f false true false again W args v W' := by
  have old : ∀ p ∈ before, (fun b => decide (b < W.heap.size)) p.block = true := fun p hp => by simpa using hW.lt p hp
  refine ⟨ds, gs, before, [], pa, pv, hW, hres _ _ _, hargs _ old, hvars _ old, World.keptBut_mono (fun p hp => ⟨hp, ?_⟩) hk, fun _ => ?_⟩
  · rw [hps, List.mem_append] at hp
    exact .inr hp
  · obtain ⟨_, _, _, _, _, hz, _⟩ := hW
    refine ⟨hok, _, _, ([] ++ pa) ++ pv, ⟨[] ++ pa, pv, trodAll_append (hargs _ fun _ _ => rfl) (hres _ _ _), hvars _ fun _ _ => rfl, rfl, fun b off hp => ?_, fun h => by cases h⟩, fun p hp _ => by rw [hps]; simpa using hp⟩
    have hb : MemPlace.cell b off ∈ before := by rw [hps]; simpa using hp
    rw [hfz b off hb]
    exact hz b off hb
theorem trodAll_carry {w w' : World} {base : Nat} {sp : Nat → Bool} {held : Bool} : ∀ {ts : List TypeId} {vs : List Value} {ds : List (DataW H)} {ps : List MemPlace}, DataW.TrodAll enc P w base sp held ts vs ds ps → (∀ p ∈ ps, w.sameAt w' p) → DataW.TrodAll enc P w' base sp held ts vs ds ps
  | [], [], [], _, h, _ => h
  | _ :: _, _ :: _, _ :: _, _, ⟨p, q, ⟨n, h1⟩, h2, e⟩, hs => ⟨p, q, ⟨n, DataW.trod_carry n _ _ _ h1 (fun x hx => hs x (by rw [e]; exact List.mem_append_left _ hx))⟩, trodAll_carry h2 (fun x hx => hs x (by rw [e]; exact List.mem_append_right _ hx)), e⟩
theorem trodAll_length {w : World} {base : Nat} {sp : Nat → Bool} {held : Bool} : ∀ {ts : List TypeId} {vs : List Value} {ds : List (DataW H)} {ps : List MemPlace}, DataW.TrodAll enc P w base sp held ts vs ds ps → ds.length = ts.length
  | [], [], [], _, _ => rfl
  | _ :: _, _ :: _, _ :: _, _, ⟨_, _, _, h2, _⟩ => by simp [trodAll_length h2]
theorem sameAt_of {w w' : World} {p : MemPlace} (h : w'.heap[p.block]? = w.heap[p.block]?) : w.sameAt w' p := by
  cases p with
  | cell b off =>
    show w'.cell? ⟨b, off, none⟩ = w.cell? ⟨b, off, none⟩
    have h : w'.heap[b]? = w.heap[b]? := h
    simp only [World.cell?, h]
  | map b => exact h
theorem law_contract (hmix : P.follows .mixedOrders = true) (hCP : ∀ k c, CP k = some c → FunOk P pure' k c) (hl : laidOutB P = true) (hm : mapsRowed P = true)
    (hz : ((List.range P.types.size).all fun t => match P.underlying t with | some (.slice e) => decide (0 < P.cellsOf e) | _ => true) = true)
    {k : Nat} {fn : Func} {s : ChangeSpec} {tb : TypeId} (hvars : s.vars = []) (hres : fn.resultTypes = #[tb]) (htb : P.underlying tb = some .bool) (hpar : ∀ t ∈ fn.params.toList, t < P.types.size)
    (hspec : ∀ ds : List (DataW H), ds.length = fn.params.toList.length → s.fn H ds = { results := [.lit (.bool true)], args := ds })
    {W : World} {args : Array Value} {ds gs : List (DataW H)} {before : List MemPlace} (hW : DataW.Whole enc P fn.params.toList s.vars false W args.toList ds gs before)
    (hv : ∃ vs, VRs (fun _ _ => none) (fun _ => False) W vs args.toList ∧ ∃ n H', callN CP n (.fn k [] []) vs 0 [] = some (bl true, H')) (hfx : ∀ (B : Nat) (o : Array Value × TypeId × Nat × Nat), pure'.fx B = some o → W.heap[B]? = some (.cells o.1 o.2.1 o.2.2)) :
    Calls P k args W fun e W' => ∃ v, e = .returned v ∧ s.post enc P fn false true false false W args v W' := by
  obtain ⟨vs, hvs, n, H', hc⟩ := hv
  refine (callN_calls hmix hCP hc hvs hfx).mono ?_
  rintro e W' ⟨c, μ', Mt', rfl, hr, hk, htr⟩
  have hcv : c = .bool true := vr_s hr
  subst hcv
  have hlt := hW.lt
  have hW0 := hW
  obtain ⟨p, q, h1, h2, e1, h3, h4⟩ := hW
  rw [hvars] at h2
  obtain ⟨rfl, rfl⟩ : gs = [] ∧ q = [] := by
    cases gs with
    | nil => exact ⟨rfl, h2⟩
    | cons g gs => exact h2.elim
  have hbp : before = p := by simpa using e1
  have hds := trodAll_length h1
  have hfn : s.fn H (ds ++ []) = { results := [.lit (.bool true)], args := ds } := by rw [List.append_nil]; exact hspec ds hds
  refine ⟨_, rfl, post_left (pa := before) (pv := []) hW0 (fun b sp hd => ?_) (fun sp hsp => ?_) (fun sp _ => ?_) (by simp) (kept_of hk htr) (fun b off hp => ?_) (ok_one hres rfl (okWide_bool_mk htb true))⟩
  · rw [hfn, hres]
    exact ⟨[], [], ⟨1, by simp [DataW.trod, Value.cells, htb]⟩, rfl, rfl⟩
  · rw [hfn]
    have h5 := DataW.TrodAll.respare (kids_rows hl hm) (fun t e ht he => slices_full_of P hz t e ht he) hpar h1 (spare' := sp) (fun x hx => hsp x (by rw [hbp]; exact hx))
    rw [hbp]
    exact trodAll_carry h5 fun x hx => sameAt_of (hk _ (hlt x (by rw [hbp]; exact hx)))
  · rw [hfn, hvars]; rfl
  · simp only [World.frozen?, hk b (hlt _ hp)]
end
end Go.AM
namespace Go.AM
theorem getD_set_same {fr : List V} {s : Nat} {v : V} (h : s < fr.length) : (fr.set s v).getD s .unk = v := by simp [h]
theorem getD_set_other {fr : List V} {s t : Nat} {v : V} (h : s ≠ t) : (fr.set s v).getD t .unk = fr.getD t .unk := by simp [h]
end Go.AM
namespace Go.AM
inductive RI where
  | keep (g : List (Nat × Bool × E)) (e : E)
  | sub (src : Nat) (path slots : List Nat)
  | tt (i : Nat)
  | cc (v : V)
  deriving Inhabited
def subAt : List Nat → List Nat → E → List (Nat × Bool × E) × E
  | [], _, e => ([], e)
  | i :: p, ss, .op _ xs => subAt p ss (xs.getD i (.c .unk))
  | 0 :: p, ss, .pick c _ _ => subAt p ss c
  | 1 :: p, s :: ss, .pick c a _ => ((s, true, c) :: (subAt p ss a).1, (subAt p ss a).2)
  | 2 :: p, s :: ss, .pick c _ b => ((s, false, c) :: (subAt p ss b).1, (subAt p ss b).2)
  | _, _, _ => ([], .c .unk)
def RI.get (S : List E) : RI → List (Nat × Bool × E) × E
  | .keep g e => (g, e)
  | .sub s p ss => subAt p ss (S.getD s (.c .unk))
  | .tt i => ([], .t i)
  | .cc v => ([], .c v)
end Go.AM
namespace Go.AM
abbrev Env := List (Nat × V)
def getV : Env → Nat → V
  | [], _ => .unk
  | (k, x) :: e, s => if s = k then x else getV e s
def killV (ks : List Nat) : Env → Env
  | [] => []
  | (k, x) :: e => if ks.contains k then killV ks e else (k, x) :: killV ks e
def frOf (n : Nat) (en : Env) : List V := (List.range n).map (getV en)
theorem getV_kill (ks : List Nat) (t : Nat) : ∀ en : Env, getV (killV ks en) t = if ks.contains t then .unk else getV en t := by
  intro en
  induction en with
  | nil => simp [killV, getV]
  | cons p e ih =>
    obtain ⟨k, x⟩ := p
    simp only [killV]
    by_cases h1 : ks.contains k = true
    · rw [if_pos h1, ih]
      split
      · rfl
      · rename_i h2
        simp only [getV]
        rw [if_neg]
        rintro rfl
        exact h2 h1
    · rw [if_neg h1]
      simp only [getV, ih]
      by_cases h3 : t = k
      · subst h3; rw [if_pos rfl, if_neg h1, if_pos rfl]
      · rw [if_neg h3, if_neg h3]
theorem frOf_length (n : Nat) (en : Env) : (frOf n en).length = n := by simp [frOf]
theorem frOf_get {n : Nat} {en : Env} {s : Nat} (h : s < n) : (frOf n en).getD s .unk = getV en s := by simp [frOf, h]
theorem frOf_ext {n : Nat} {en en' : Env} (h : ∀ s, s < n → getV en s = getV en' s) : frOf n en = frOf n en' := by
  unfold frOf
  exact List.map_congr_left fun s hs => h s (by simpa using hs)
theorem fr_eq {n : Nat} {en : Env} {fr : List V} (hl : fr.length = n) (h : ∀ s, s < n → fr.getD s .unk = getV en s) : fr = frOf n en := by
  refine List.ext_getElem (by rw [hl, frOf_length]) fun i h1 h2 => ?_
  have := h i (by omega)
  simp only [frOf, List.getElem_map, List.getElem_range]
  rw [← this]
  simp [h1]
theorem frOf_kill (n : Nat) (en : Env) (ks : List Nat) : killS ks (frOf n en) = frOf n (killV ks en) := by
  refine fr_eq (by rw [killS_length, frOf_length]) fun t ht => ?_
  rw [killS_getD, getV_kill]
  by_cases h : t ∈ ks
  · rw [if_pos h, if_pos (by simpa using h)]
  · rw [if_neg h, if_neg (by simpa using h), frOf_get ht]
def startV (n : Nat) : List V → Nat → Env
  | [], k => (List.range' k (n - k)).map fun s => (s, und)
  | v :: vs, k => (k, v) :: startV n vs (k + 1)
theorem getV_start (n : Nat) : ∀ (vs : List V) (k t : Nat), k ≤ t → t < n → vs.length + k ≤ n → getV (startV n vs k) t = if t - k < vs.length then vs.getD (t - k) .unk else und := by
  intro vs
  induction vs with
  | nil =>
    intro k t h1 h2 _
    simp only [startV, List.length_nil, Nat.not_lt_zero, if_false]
    have : ∀ (m j : Nat), j ≤ t → t < j + m → getV ((List.range' j m).map fun s => (s, und)) t = und := by
      intro m
      induction m with
      | zero => intro j a b; omega
      | succ m ih =>
        intro j a b
        simp only [List.range'_succ, List.map_cons, getV]
        split
        · rfl
        · exact ih (j + 1) (by omega) (by omega)
    exact this _ k h1 (by omega)
  | cons v vs ih =>
    intro k t h1 h2 h3
    simp only [startV, getV, List.length_cons] at h3 ⊢
    split
    · rename_i h; subst h; simp
    · rename_i h
      rw [ih (k + 1) t (by omega) h2 (by omega)]
      obtain ⟨d, hd⟩ : ∃ d, t - k = d + 1 := ⟨t - k - 1, by omega⟩
      have : t - (k + 1) = d := by omega
      rw [hd, this]
      simp only [Nat.add_lt_add_iff_right, List.getD_cons_succ]
theorem start_eq {n : Nat} {vs : List V} (h : vs.length ≤ n) : vs ++ List.replicate (n - vs.length) und = frOf n (startV n vs 0) := by
  refine fr_eq (by simp; omega) fun t ht => ?_
  rw [getV_start n vs 0 t (Nat.zero_le _) ht (by omega)]
  split
  · rename_i h1; simp at h1; simp only [List.getD, List.getElem?_append_left h1, Nat.sub_zero]
  · rename_i h1
    simp at h1
    simp only [List.getD, List.getElem?_append_right h1, List.getElem?_replicate]
    rw [if_pos (by omega)]
    rfl
section
variable {call : CallF} {it : IterF} {base : Nat}
end
def V1 (f : V → Option V) : Option V → Option V
  | some x => f x
  | none => none
def xIndexAddr (sz : Nat) : V → V → Option V
  | .sl id g off len sz', .s (.int _ n) => if 0 ≤ n ∧ n < len ∧ sz' = sz then some (.ref id g (off + n.toNat * sz)) else none
  | .psl es sz', .s (.int _ n) => if 0 ≤ n ∧ sz' = sz then (es[n.toNat]?).map .pref else none
  | _, _ => none
def xLen (H : Heap) : NK → V → Option V
  | .p, .s (.string b) => some (i64 b.size)
  | .s, .s (.slice none 0 0) => some (i64 0)
  | .m, .s (.map none) => some (i64 0)
  | .s, .esl => some (i64 0)
  | .s, .psl es _ => some (i64 es.length)
  | .s, .sl _ _ _ len _ => some (i64 len)
  | .m, .mp id => match H[id]? with
    | some (.map es) => some (i64 es.length)
    | _ => none
  | _, _ => none
def xLoad (H : Heap) (g : Bool) (n : Nat) (a : V) : Option V := loadV H g n a
section
variable (fr : List V) (H : Heap) (x y : E)
end
section
variable (b : List V → Heap → Option St) (k : List Nat) (m : Nat)
end
section
variable {call : CallF} {base : Nat}
end
section
variable (call : CallF) (base : Nat) (fr : List V) (H : Heap) (x y : Opd)
end
end Go.AM
namespace Go.AM
def fNat {α : Type} (n : Nat) (k : Nat → α) : α := match n with
  | 0 => k 0
  | p + 1 => k (p + 1)
theorem fNat_eq {α : Type} (n : Nat) (k : Nat → α) : fNat n k = k n := by cases n <;> rfl
def fInt {α : Type} (n : Int) (k : Int → α) : α := match n with
  | .ofNat m => fNat m fun m => k (.ofNat m)
  | .negSucc m => fNat m fun m => k (.negSucc m)
theorem fInt_eq {α : Type} (n : Int) (k : Int → α) : fInt n k = k n := by cases n <;> simp [fInt, fNat_eq]
def fBool {α : Type} (b : Bool) (k : Bool → α) : α := match b with
  | false => k false
  | true => k true
theorem fBool_eq {α : Type} (b : Bool) (k : Bool → α) : fBool b k = k b := by cases b <;> rfl
def fVal {α : Type} (v : Value) (k : Value → α) : α :=
  match v with
  | .bool b => fBool b fun b => k (.bool b)
  | .int t n => fInt n fun n => k (.int t n)
  | v => k v
theorem fVal_eq {α : Type} (v : Value) (k : Value → α) : fVal v k = k v := by cases v <;> simp [fVal, fInt_eq, fBool_eq]
mutual
def fV {α : Type} : V → (V → α) → α
  | .s v, k => fVal v fun v => k (.s v)
  | .agg cs, k => fVs cs fun cs => k (.agg cs)
  | .tup cs, k => fVs cs fun cs => k (.tup cs)
  | .ref i g o, k => fNat i fun i => fNat g fun g => fNat o fun o => k (.ref i g o)
  | .sl i g o l z, k => fNat i fun i => fNat g fun g => fNat o fun o => fNat l fun l => k (.sl i g o l z)
  | .mp i, k => fNat i fun i => k (.mp i)
  | .fn f a b, k => fVs a fun a => fVs b fun b => k (.fn f a b)
  | .pref cs, k => fVs cs fun cs => k (.pref cs)
  | .psl es z, k => k (.psl es z)
  | .esl, k => k .esl
  | .yld i, k => fNat i fun i => k (.yld i)
  | .ifc t v, k => k (.ifc t v)
  | .unk, k => k .unk
def fVs {α : Type} : List V → (List V → α) → α
  | [], k => k []
  | x :: xs, k => fV x fun x => fVs xs fun xs => k (x :: xs)
end
mutual
theorem fV_eq {α : Type} : ∀ (v : V) (k : V → α), fV v k = k v
  | .s v, k => by simp [fV, fVal_eq]
  | .agg cs, k => by simp [fV, fVs_eq]
  | .tup cs, k => by simp [fV, fVs_eq]
  | .ref i g o, k => by simp [fV, fNat_eq]
  | .sl i g o l z, k => by simp [fV, fNat_eq]
  | .mp i, k => by simp [fV, fNat_eq]
  | .fn f a b, k => by simp [fV, fVs_eq]
  | .pref cs, k => by simp [fV, fVs_eq]
  | .psl es z, k => rfl
  | .esl, k => rfl
  | .yld i, k => by simp [fV, fNat_eq]
  | .ifc t v, k => rfl
  | .unk, k => rfl
theorem fVs_eq {α : Type} : ∀ (l : List V) (k : List V → α), fVs l k = k l
  | [], k => rfl
  | x :: xs, k => by simp [fVs, fV_eq, fVs_eq]
end
def fSp {α β : Type} : List β → (List β → α) → α
  | [], k => k []
  | x :: xs, k => fSp xs fun xs => k (x :: xs)
theorem fSp_eq {α β : Type} : ∀ (l : List β) (k : List β → α), fSp l k = k l
  | [], k => rfl
  | x :: xs, k => by simp [fSp, fSp_eq]
def fOb {α : Type} (o : Ob) (k : Ob → α) : α :=
  match o with
  | .cells g c => fNat g fun g => fVs c fun c => k (.cells g c)
  | .map es => fSp es fun es => k (.map es)
  | o => k o
theorem fOb_eq {α : Type} (o : Ob) (k : Ob → α) : fOb o k = k o := by cases o <;> simp [fOb, fNat_eq, fVs_eq, fSp_eq]
def fH {α : Type} : Heap → (Heap → α) → α
  | [], k => k []
  | x :: xs, k => fOb x fun x => fH xs fun xs => k (x :: xs)
theorem fH_eq {α : Type} : ∀ (l : Heap) (k : Heap → α), fH l k = k l
  | [], k => rfl
  | x :: xs, k => by simp [fH, fOb_eq, fH_eq]
def bndL (look : Opd → V) (d : Nat) : Option Opd → Option Int
  | none => some d
  | some x => intOf? (look x)
def evOpL (call : CallF) (base : Nat) (look : Opd → V) (H : Heap) : AOp → Option (V × Heap)
  | .move x => some (look x, H)
  | .pick c a b => match look c with
    | .s (.bool true) => some (look a, H)
    | .s (.bool false) => some (look b, H)
    | _ => none
  | .alloc zero => some (.ref H.length 0 0, H ++ [.cells 0 zero])
  | .box x => let v := look x; if v.cells.all V.one then some (.ref H.length 0 0, H ++ [.cells 0 v.cells]) else none
  | .build zero places parts => match fillA (places[·]?) zero (parts.map fun p => (p.1, look p.2)) with
    | some cs => some (.agg cs, H)
    | none => none
  | .buildSl sz len zero parts => match fillA (fun i => some (i * sz, sz)) zero (parts.map fun p => (p.1, look p.2)) with
    | some cs => some (if len = 0 then .esl else .sl H.length 0 0 len sz, H ++ [.cells 0 cs])
    | none => none
  | .mapNew => some (.mp H.length, H ++ [.map []])
  | .mapUpd kind m k v => match look m, look k with
    | .mp id, .s key => if base ≤ id ∧ keyOk kind key then match H[id]? with
        | some (.map es) => match findA kind key es 0 with
          | some (some (i, _)) => some (und, H.set id (.map (es.set i (key, look v))))
          | some none => some (und, H.set id (.map (es ++ [(key, look v)])))
          | none => none
        | _ => none
      else none
    | _, _ => none
  | .mapGet kind zero m k ok => match look k with
    | .s key => if keyOk kind key then
        match look m with
        | .s (.map none) => some (if ok then .tup [zero, bl false] else zero, H)
        | .mp id => match H[id]? with
          | some (.map es) => match findA kind key es 0 with
            | some (some (_, v)) => some (if ok then .tup [v, bl true] else v, H)
            | some none => some (if ok then .tup [zero, bl false] else zero, H)
            | none => none
          | _ => none
        | _ => none
      else none
    | _ => none
  | .load agg n a => (loadV H agg n (look a)).map fun v => (v, H)
  | .store n a v => (storeV H base n (look v) (look a)).map fun H => (und, H)
  | .nilCheck x => match look x with
    | .ref id g off => some (.ref id g off, H)
    | .pref cs => some (.pref cs, H)
    | .fn f a b => some (.fn f a b, H)
    | .yld id => some (.yld id, H)
    | _ => none
  | .bin op x y => match look x, look y with
    | .s a, .s b => (binS op a b).map fun v => (.s v, H)
    | _, _ => none
  | .eqB neg x y => match look x, look y with
    | .s (.bool a), .s (.bool b) => some (bl ((a == b) != neg), H)
    | _, _ => none
  | .eqP neg x y => match look x, look y with
    | .ref i g _, .ref j h _ => if i = j then none else match getC H i g, getC H j h with
      | some _, some _ => some (bl neg, H)
      | _, _ => none
    | _, _ => none
  | .eqNil k neg x => match (look x).isNil k with
    | some b => some (bl (b != neg), H)
    | none => none
  | .eqAgg neg ls x y => match look x, look y with
    | .agg xs, .agg ys => match eqLeaves ls xs ys with
      | some b => some (bl (b != neg), H)
      | none => none
    | _, _ => none
  | .un op x => match op, look x with
    | .not, .s (.bool b) => some (bl (!b), H)
    | .neg, .s (.int k n) => some (.s (.int k (k.wrap (0 - n))), H)
    | .xor, .s (.int k n) => (binS .xor (.int k (if k.signed then -1 else k.max)) (.int k n)).map fun v => (.s v, H)
    | _, _ => none
  | .conv k x => match look x with
    | .s (.int _ n) => some (.s (.int k (k.wrap n)), H)
    | _ => none
  | .convId x => match look x with
    | .s (.string b) => some (.s (.string b), H)
    | _ => none
  | .mkFn f fst cap => some (.fn f (fst.map (look)) (cap.map (look)), H)
  | .mkSl zero sz bytes len cap => match look len, look cap with
    | .s (.int _ l), .s (.int _ c) =>
      if 0 ≤ l ∧ l ≤ c ∧ c * bytes ≤ 2 ^ 47 then some (.sl H.length 0 0 l.toNat sz, H ++ [.cells 0 (List.replicate l.toNat zero).flatten]) else none
    | _, _ => none
  | .subStr x lo hi => match look x with
    | .s (.string b) => match bndL look 0 lo, bndL look b.size hi with
      | some l, some h => if 0 ≤ l ∧ l ≤ h ∧ h ≤ b.size then some (.s (.string (b.extract l.toNat h.toNat)), H) else none
      | _, _ => none
    | _ => none
  | .subSl sz x lo hi mx =>
    match mx with
    | none => match look x with
      | .s (.slice none 0 0) => match bndL look 0 lo, bndL look 0 hi with
        | some 0, some 0 => some (nilS, H)
        | _, _ => none
      | .esl => match bndL look 0 lo, bndL look 0 hi with
        | some 0, some 0 => some (.esl, H)
        | _, _ => none
      | .psl es sz' => match bndL look 0 lo, bndL look es.length hi with
        | some l, some h => if 0 ≤ l ∧ l ≤ h ∧ h ≤ es.length ∧ sz' = sz then some (.psl ((es.drop l.toNat).take (h - l).toNat) sz, H) else none
        | _, _ => none
      | .sl id g off len sz' => match bndL look 0 lo, bndL look len hi with
        | some l, some h => if 0 ≤ l ∧ l ≤ h ∧ h ≤ len ∧ sz' = sz then some (.sl id g (off + l.toNat * sz) (h - l).toNat sz, H) else none
        | _, _ => none
      | _ => none
    | some m => match hi, bndL look 0 lo with
      | some h, some 0 => match intOf? (look h), intOf? (look m) with
        | some 0, some 0 => match look x with
          | .s (.slice none 0 0) => some (nilS, H)
          | .esl => some (.esl, H)
          | .psl _ _ => some (.esl, H)
          | .sl _ _ _ _ _ => some (.esl, H)
          | _ => none
        | _, _ => none
      | _, _ => none
  | .fieldAddr off x => match look x with
    | .ref id g o => some (.ref id g (o + off), H)
    | .pref cs => if off ≤ cs.length then some (.pref (cs.drop off), H) else none
    | _ => none
  | .field agg off n x => match look x with
    | .agg cs => let cs := (cs.drop off).take n; if cs.length = n then (shut agg cs).map fun v => (v, H) else none
    | _ => none
  | .indexAddr sz x i => match look x, look i with
    | .sl id g off len sz', .s (.int _ n) => if 0 ≤ n ∧ n < len ∧ sz' = sz then some (.ref id g (off + n.toNat * sz), H) else none
    | .psl es sz', .s (.int _ n) => if 0 ≤ n ∧ sz' = sz then match es[n.toNat]? with
        | some e => some (.pref e, H)
        | none => none
      else none
    | _, _ => none
  | .indexStr x i => match look x, look i with
    | .s (.string b), .s (.int _ n) => if 0 ≤ n then match b.data.toList[n.toNat]? with
        | some c => some (.s (.int .u8 c.toNat), H)
        | none => none
      else none
    | _, _ => none
  | .extract x i => match look x with
    | .tup vs => match vs[i]? with
      | some v => some (v, H)
      | none => none
    | _ => none
  | .lenS k x => match k, look x with
    | .p, .s (.string b) => some (i64 b.size, H)
    | .s, .s (.slice none 0 0) => some (i64 0, H)
    | .m, .s (.map none) => some (i64 0, H)
    | .s, .esl => some (i64 0, H)
    | .s, .psl es _ => some (i64 es.length, H)
    | .s, .sl _ _ _ len _ => some (i64 len, H)
    | .m, .mp id => match H[id]? with
      | some (.map es) => some (i64 es.length, H)
      | _ => none
    | _, _ => none
  | .append sz bytes s x => appendV H base sz bytes (look s) (look x)
  | .delete kind m k => match look m, look k with
    | .mp id, .s key => if base ≤ id ∧ keyOk kind key then match H[id]? with
        | some (.map es) => match findA kind key es 0 with
          | some (some (i, _)) => some (und, H.set id (.map (es.eraseIdx i)))
          | some none => some (und, H)
          | none => none
        | _ => none
      else none
    | _, _ => none
  | .minmax mx x y => match look x, look y with
    | .s (.int k a), .s (.int k' b) => if k = k' then some (.s (.int k (if mx then (if a < b then b else a) else (if b < a then b else a))), H) else none
    | _, _ => none
  | .call f args => call (look f) (args.map (look)) base H
  | .callR f args => call (look f) (args.map (look)) H.length H
  | .callP f args =>
    let vs := args.map (look)
    match vs.mapM (frz H 12) with
    | some us => match call (.fn f [] []) us 0 [] with
      | some (v, H') => match frz H' 12 v with
        | some u => if vs.all (isPure 12) || u.flat2 then some (u, H) else none
        | none => none
      | none => none
    | none => none
  | .callQ f args =>
    if (args.map (look)).all (isPure 12) then
      match call (.fn f [] []) (args.map (look)) 0 [] with
      | some (v, H') => match frz H' 12 v with
        | some u => some (u, H)
        | none => none
      | none => none
    else none
  | .copy sz d s => copyV H base sz (look d) (look s)
  | .bstr x => (bstrV H (look x)).map fun v => (v, H)
  | .stuck => none
  | .clearSl sz zero x => match look x with
    | .s (.slice none 0 0) => some (und, H)
    | .esl => some (und, H)
    | .sl id g off len sz' => if len = 0 then some (und, H) else if base ≤ id ∧ sz' = sz then match getC H id g with
        | some c => if zero.length = sz ∧ off + len * sz ≤ c.length ∧ zero.all V.one then some (und, H.set id (.cells g (splice c off (List.replicate len zero).flatten))) else none
        | none => none
      else none
    | _ => none
theorem bndL_eq (fr : List V) (d : Nat) (o : Option Opd) : bndA fr d o = bndL (ev fr) d o := by cases o <;> rfl
theorem evOpL_eq (call : CallF) (base : Nat) (fr : List V) (H : Heap) (o : AOp) : evOpL call base (ev fr) H o = evOp call base fr H o := by
  cases o <;> first | rfl | (simp only [evOpL, evOp, bndL_eq]; done) | (simp only [evOpL, evOp, bndL_eq]; rfl)
def fHeap {α : Type} (o : AOp) (H : Heap) (k : Heap → α) : α :=
  match o with
  | .alloc _ | .box _ | .buildSl .. | .mapNew | .mkSl .. | .append .. | .mapUpd .. | .store .. | .delete .. | .clearSl .. | .copy .. => fH H k
  | _ => k H
theorem fHeap_eq {α : Type} (o : AOp) (H : Heap) (k : Heap → α) : fHeap o H k = k H := by cases o <;> simp [fHeap, fH_eq]
def getE : Env → Nat → V
  | [], _ => .unk
  | (k, x) :: e, s => match Nat.beq s k with
    | true => x
    | false => getE e s
theorem getE_eq (s : Nat) : ∀ en : Env, getE en s = getV en s := by
  intro en
  induction en with
  | nil => rfl
  | cons p e ih =>
    obtain ⟨k, x⟩ := p
    simp only [getE, getV]
    by_cases h : s = k
    · have : Nat.beq s k = true := by simpa using h
      rw [this, if_pos h]
    · have : Nat.beq s k = false := by
        cases hb : Nat.beq s k with
        | true => exact absurd (Nat.eq_of_beq_eq_true hb) h
        | false => rfl
      rw [this, if_neg h, ih]
def lookE (en : Env) : Opd → V
  | .t i => getE en i
  | .c v => v
def wfE (n : Nat) (en : Env) : Prop := ∀ p ∈ en, p.1 < n
theorem getV_out {n : Nat} {en : Env} (h : wfE n en) {s : Nat} (hs : n ≤ s) : getV en s = .unk := by
  induction en with
  | nil => rfl
  | cons p e ih =>
    obtain ⟨k, x⟩ := p
    have := h _ (List.mem_cons_self)
    simp only [getV]
    rw [if_neg (by simp at this; omega)]
    exact ih fun q hq => h q (List.mem_cons_of_mem _ hq)
theorem frOf_getD {n : Nat} {en : Env} (h : wfE n en) (s : Nat) : (frOf n en).getD s .unk = getV en s := by
  by_cases hs : s < n
  · exact frOf_get hs
  · rw [getV_out h (by omega)]
    simp [frOf, List.getD, hs]
theorem lookE_eq {n : Nat} {en : Env} (h : wfE n en) : lookE en = ev (frOf n en) := by
  funext x
  cases x with
  | t i => simp only [lookE, ev, getE_eq, frOf_getD h]
  | c v => rfl
def putE (n : Nat) (d : Option Nat) (v : V) (en : Env) : Env :=
  match d with
  | some d => match Nat.blt d n with
    | true => (d, v) :: en
    | false => en
  | none => en
theorem putE_wf {n : Nat} {d : Option Nat} {v : V} {en : Env} (h : wfE n en) : wfE n (putE n d v en) := by
  cases d with
  | none => exact h
  | some d =>
    simp only [putE]
    cases hb : Nat.blt d n with
    | true => intro p hp; rcases List.mem_cons.1 hp with rfl | hp; (exact Nat.blt_eq.mp hb); exact h p hp
    | false => exact h
theorem putE_eq {n : Nat} {d : Option Nat} {v : V} {en : Env} : frOf n (putE n d v en) = put d v (frOf n en) := by
  cases d with
  | none => rfl
  | some d =>
    simp only [putE, put]
    cases hb : Nat.blt d n with
    | true =>
      refine (fr_eq (by rw [List.length_set, frOf_length]) fun t ht => ?_).symm
      simp only [getV]
      by_cases e : t = d
      · subst e; rw [if_pos rfl, getD_set_same (by rw [frOf_length]; exact ht)]
      · rw [if_neg e, getD_set_other (fun h => e h.symm), frOf_get ht]
    | false =>
      have : ¬ d < n := fun h => by rw [Nat.blt_eq.mpr h] at hb; cases hb
      rw [List.set_eq_of_length_le (by rw [frOf_length]; omega)]
def compactE (mask : Nat) : Env → Env
  | [] => []
  | (s, v) :: e => match mask.testBit s with
    | true => compactE mask e
    | false => (s, v) :: compactE (mask ||| (1 <<< s)) e
theorem testBit_or (m s t : Nat) : (m ||| (1 <<< s)).testBit t = (m.testBit t || decide (t = s)) := by
  rw [Nat.testBit_or, Nat.one_shiftLeft, Nat.testBit_two_pow]
  congr 1
  simp [eq_comm]
theorem getV_compact (s : Nat) : ∀ (en : Env) (mask : Nat), getV (compactE mask en) s = if mask.testBit s then .unk else getV en s := by
  intro en
  induction en with
  | nil => intro mask; simp [compactE, getV]
  | cons p e ih =>
    obtain ⟨k, x⟩ := p
    intro mask
    simp only [compactE]
    cases hb : mask.testBit k with
    | true =>
      simp only [ih, getV]
      by_cases h : s = k
      · subst h; simp [hb]
      · rw [if_neg h]
    | false =>
      simp only [getV, ih, testBit_or]
      by_cases h : s = k
      · subst h; simp [hb]
      · simp [h]
theorem compact_mem {p : Nat × V} : ∀ {en : Env} {mask : Nat}, p ∈ compactE mask en → p ∈ en ∧ mask.testBit p.1 = false := by
  intro en
  induction en with
  | nil => intro mask h; cases h
  | cons q e ih =>
    obtain ⟨k, x⟩ := q
    intro mask h
    simp only [compactE] at h
    cases hb : mask.testBit k with
    | true => rw [hb] at h; obtain ⟨h1, h2⟩ := ih h; exact ⟨List.mem_cons_of_mem _ h1, h2⟩
    | false =>
      rw [hb] at h
      rcases List.mem_cons.1 h with rfl | h
      · exact ⟨List.mem_cons_self, hb⟩
      · obtain ⟨h1, h2⟩ := ih h
        rw [testBit_or] at h2
        simp only [Bool.or_eq_false_iff] at h2
        exact ⟨List.mem_cons_of_mem _ h1, h2.1⟩
theorem compact_wf {n mask : Nat} {en : Env} (h : wfE n en) : wfE n (compactE mask en) := fun p hp => h p (compact_mem hp).1
theorem compact_val : ∀ {en : Env} {mask : Nat} {p : Nat × V}, p ∈ compactE mask en → getV (compactE mask en) p.1 = p.2 := by
  intro en
  induction en with
  | nil => intro mask p h; cases h
  | cons q e ih =>
    obtain ⟨k, x⟩ := q
    intro mask p h
    simp only [compactE] at h ⊢
    cases hb : mask.testBit k with
    | true => rw [hb] at h; exact ih h
    | false =>
      rw [hb] at h
      rcases List.mem_cons.1 h with rfl | h
      · simp [getV]
      · have h3 := (compact_mem h).2
        rw [testBit_or] at h3
        simp only [Bool.or_eq_false_iff, decide_eq_false_iff_not] at h3
        simp only [getV, if_neg h3.2]
        exact ih h
def maskOf : List Nat → Nat
  | [] => 0
  | s :: l => maskOf l ||| (1 <<< s)
theorem maskOf_bit (s : Nat) : ∀ l : List Nat, (maskOf l).testBit s = l.contains s := by
  intro l
  induction l with
  | nil => simp [maskOf]
  | cons a l ih => rw [maskOf, testBit_or, ih, List.contains_cons, Bool.or_comm]; congr 1
theorem compact_kill {n : Nat} {en : Env} (l : List Nat) : frOf n (compactE (maskOf l) en) = killS l (frOf n en) := by
  rw [frOf_kill]
  exact frOf_ext fun s _ => by rw [getV_compact, getV_kill, maskOf_bit]
theorem compact_zero {n : Nat} {en : Env} : frOf n (compactE 0 en) = frOf n en := frOf_ext fun s _ => by rw [getV_compact]; simp
def trimE (m : Nat) (en : Env) (H : Heap) : Heap :=
  if en.all (fun p => idsUnder m 8 p.2) && (H.take m).all (Ob.under m) then H.take m else H
theorem trimE_eq {n m mask : Nat} {en : Env} {H : Heap} (hw : wfE n en) : trimE m (compactE mask en) H = trim m (frOf n (compactE mask en)) H := by
  have : (compactE mask en).all (fun p => idsUnder m 8 p.2) = (frOf n (compactE mask en)).all (idsUnder m 8) := by
    rw [Bool.eq_iff_iff, List.all_eq_true, List.all_eq_true]
    constructor
    · intro h v hv
      unfold frOf at hv
      rw [List.mem_map] at hv
      obtain ⟨s, _, rfl⟩ := hv
      have key : ∀ en : Env, (∀ p ∈ en, idsUnder m 8 p.2 = true) → idsUnder m 8 (getV en s) = true := by
        intro en
        induction en with
        | nil => intro _; rfl
        | cons q e ih =>
          intro h
          simp only [getV]
          split
          · exact h q List.mem_cons_self
          · exact ih fun p hp => h p (List.mem_cons_of_mem _ hp)
      exact key _ h
    · intro h p hp
      rw [← compact_val hp]
      refine h _ ?_
      unfold frOf
      rw [List.mem_map]
      exact ⟨p.1, by simpa using hw p (compact_mem hp).1, rfl⟩
  unfold trimE trim
  rw [this]
def wantE (o : AOper) (en : Env) : Option Bool :=
  match o.guard with
  | none => some true
  | some (t, b) => match getE en t with
    | .s (.bool x) => some (x == b)
    | .s (.tuple _) => some false
    | _ => none
theorem wantE_eq {n : Nat} {en : Env} (h : wfE n en) (o : AOper) : wantE o en = want o (frOf n en) := by
  unfold wantE want
  cases o.guard with
  | none => rfl
  | some g => simp only [getE_eq, frOf_getD h]; rfl
def evOpsE (n : Nat) (call : CallF) (base : Nat) : List AOper → Env → Heap → Option (Env × Heap)
  | [], en, H => some (en, H)
  | o :: os, en, H => match wantE o en with
    | none => none
    | some false => evOpsE n call base os (putE n o.dst und en) H
    | some true => match evOpL call base (lookE en) H o.op with
      | some (v, H') => fV v fun v => fHeap o.op H' fun H' => evOpsE n call base os (putE n o.dst v en) H'
      | none => none
def up {α : Type} (n : Nat) : Option (α × Env × Heap) → Option (α × List V × Heap)
  | some (e, en, H) => some (e, frOf n en, H)
  | none => none
def up2 (n : Nat) : Option (Env × Heap) → Option (List V × Heap)
  | some (en, H) => some (frOf n en, H)
  | none => none
theorem evOpsE_eq (n : Nat) (call : CallF) (base : Nat) : ∀ (l : List AOper) (en : Env) (H : Heap), wfE n en → evOps call base l (frOf n en) H = up2 n (evOpsE n call base l en H) ∧ ∀ en' H', evOpsE n call base l en H = some (en', H') → wfE n en' := by
  intro l
  induction l with
  | nil => intro en H hw; exact ⟨rfl, fun en' H' h => by cases h; exact hw⟩
  | cons o os ih =>
    intro en H hw
    simp only [evOpsE, evOps, fV_eq, fHeap_eq, wantE_eq hw, lookE_eq hw, evOpL_eq]
    cases want o (frOf n en) with
    | none => exact ⟨rfl, fun _ _ h => by cases h⟩
    | some b =>
      cases b with
      | false => simp only [← putE_eq]; exact ih _ _ (putE_wf hw)
      | true =>
        simp only []
        cases evOp call base (frOf n en) H o.op with
        | none => exact ⟨rfl, fun _ _ h => by cases h⟩
        | some r => obtain ⟨v, H'⟩ := r; simp only [← putE_eq]; exact ih _ _ (putE_wf hw)
def iterE (body : Env → Heap → Option (Ex × Env × Heap)) (kill : List Nat) (m : Nat) : Nat → Env → Heap → Option (Ex × Env × Heap)
  | 0, _, _ => none
  | j + 1, en, H => match body en H with
    | some (.nrm, en', H') => fSp (compactE (maskOf kill) en') fun en' => iterE body kill m j en' (trimE m en' H')
    | some (e, en', H') => fSp (compactE (maskOf kill) en') fun en' => some (e, en', trimE m en' H')
    | none => none
theorem iterE_eq {n : Nat} {b : List V → Heap → Option St} {b' : Env → Heap → Option (Ex × Env × Heap)} (hb : ∀ en H, wfE n en → b (frOf n en) H = up n (b' en H) ∧ ∀ e en' H', b' en H = some (e, en', H') → wfE n en') (kill : List Nat) (m : Nat) :
    ∀ (j : Nat) (en : Env) (H : Heap), wfE n en → iterN b kill m j (frOf n en) H = up n (iterE b' kill m j en H) ∧ ∀ e en' H', iterE b' kill m j en H = some (e, en', H') → wfE n en' := by
  intro j
  induction j with
  | zero => intro en H _; exact ⟨rfl, fun _ _ _ h => by cases h⟩
  | succ j ih =>
    intro en H hw
    obtain ⟨h1, h2⟩ := hb en H hw
    simp only [iterN, iterE, h1, fSp_eq]
    cases hr : b' en H with
    | none => exact ⟨rfl, fun _ _ _ h => by cases h⟩
    | some r =>
      obtain ⟨e, en', H'⟩ := r
      have hw' := h2 _ _ _ hr
      cases e with
      | nrm =>
        simp only [up, ← compact_kill, ← trimE_eq hw']
        exact ih _ _ (compact_wf hw')
      | ext id =>
        simp only [up, ← compact_kill, ← trimE_eq hw']
        exact ⟨by trivial, fun _ _ _ h => by cases h; exact compact_wf hw'⟩
      | ret =>
        simp only [up, ← compact_kill, ← trimE_eq hw']
        exact ⟨by trivial, fun _ _ _ h => by cases h; exact compact_wf hw'⟩
def evCE (n : Nat) (call : CallF) (j : Nat) (base : Nat) : ACode → Env → Heap → Option (Ex × Env × Heap)
  | .skip, en, H => some (.nrm, en, H)
  | .region ops chk kill, en, H => match evOpsE n call base ops en H with
    | some (en, H) => match chk with
      | [] => match kill with
        | [] => some (.nrm, en, H)
        | k :: ks => some (.nrm, compactE (maskOf (k :: ks)) en, H)
      | c :: cs => if (c :: cs).all (apartAt ops (frOf n en)) then some (.nrm, compactE (maskOf kill) en, H) else none
    | none => none
  | .regionE .., _, _ => none
  | .seq a b, en, H => match evCE n call j base a en H with
    | some (.nrm, en, H) => evCE n call j base b en H
    | r => r
  | .cond c a b, en, H => match lookE en c with
    | .s (.bool true) => evCE n call j base a en H
    | .s (.bool false) => evCE n call j base b en H
    | _ => none
  | .block id c, en, H => match evCE n call j base c en H with
    | some (.ext id', en, H) => some (match Nat.beq id' id with | true => .nrm | false => .ext id', en, H)
    | r => r
  | .loop kill c, en, H => fSp (compactE (maskOf kill) en) fun en => iterE (fun en H => evCE n call j base c en H) kill H.length j en H
  | .rangeFunc f params assign body, en, H =>
    fSp (compactE 0 en) fun en =>
    match lookE en f with
    | .fn k x y => match call (.fn k x y) [.yld H.length] base (H ++ [.loop .ready none (frOf n en) params assign body]) with
      | some (_, H') => match H'[H.length]? with
        | some (.loop .ready none _ _ _ _) => some (.nrm, en, trimE H.length en (H'.set H.length .dead))
        | some (.loop .done (some e) _ _ _ _) => some (e, en, trimE H.length en (H'.set H.length .dead))
        | _ => none
      | none => none
    | _ => none
  | .exit id, en, H => some (.ext id, en, H)
  | .ret, en, H => some (.ret, en, H)
def plainC : ACode → Bool
  | .regionE .. => false
  | .region ops chk _ => chk.all fun p => !(ops.getD p.1 default).op.isCallB && !(ops.getD p.2 default).op.isCallB
  | .seq a b => plainC a && plainC b
  | .cond _ a b => plainC a && plainC b
  | .block _ c => plainC c
  | .loop _ c => plainC c
  | _ => true
theorem evCE_eq (n : Nat) (call : CallF) (j : Nat) (base : Nat) : ∀ (c : ACode), plainC c = true → ∀ (en : Env) (H : Heap), wfE n en → evC call (fun b k m => iterN b k m j) base c (frOf n en) H = up n (evCE n call j base c en H) ∧ ∀ e en' H', evCE n call j base c en H = some (e, en', H') → wfE n en' := by
  intro c
  induction c with
  | skip => intro _ en H hw; exact ⟨rfl, fun _ _ _ h => by cases h; exact hw⟩
  | exit id => intro _ en H hw; exact ⟨rfl, fun _ _ _ h => by cases h; exact hw⟩
  | ret => intro _ en H hw; exact ⟨rfl, fun _ _ _ h => by cases h; exact hw⟩
  | regionE ops kill outs => intro h; simp [plainC] at h
  | region ops chk kill =>
    intro hp en H hw
    have hlate : ∀ fr H fr', chk.all (lateOk call base ops fr H fr') = chk.all (apartAt ops fr') := by
      intro fr H fr'
      simp only [plainC, List.all_eq_true, Bool.and_eq_true, Bool.not_eq_true'] at hp
      rw [Bool.eq_iff_iff, List.all_eq_true, List.all_eq_true]
      constructor
      · intro h p hm
        have := h p hm
        simpa only [lateOk, (hp p hm).1, (hp p hm).2, Bool.false_and, Bool.or_false] using this
      · intro h p hm
        simp only [lateOk, h p hm, Bool.true_or]
    obtain ⟨h1, h2⟩ := evOpsE_eq n call base ops en H hw
    simp only [evC, hlate, evCE, h1]
    cases hr : evOpsE n call base ops en H with
    | none => exact ⟨rfl, fun _ _ _ h => by cases h⟩
    | some r =>
      obtain ⟨en', H'⟩ := r
      have hw' := h2 _ _ hr
      simp only [up2]
      cases chk with
      | nil =>
        simp only [List.all_nil, if_true]
        cases kill with
        | nil => exact ⟨rfl, fun _ _ _ h => by cases h; exact hw'⟩
        | cons k ks => exact ⟨by simp only [up, compact_kill], fun _ _ _ h => by cases h; exact compact_wf hw'⟩
      | cons x xs =>
        simp only []
        split
        · exact ⟨by simp only [up, compact_kill], fun _ _ _ h => by cases h; exact compact_wf hw'⟩
        · exact ⟨rfl, fun _ _ _ h => by cases h⟩
  | seq a b iha ihb =>
    intro hp en H hw
    simp only [plainC, Bool.and_eq_true] at hp
    obtain ⟨h1, h2⟩ := iha hp.1 en H hw
    simp only [evC, evCE, h1]
    cases hr : evCE n call j base a en H with
    | none => exact ⟨rfl, fun _ _ _ h => by cases h⟩
    | some r =>
      obtain ⟨e, en', H'⟩ := r
      have hw' := h2 _ _ _ hr
      cases e with
      | nrm => exact ihb hp.2 en' H' hw'
      | ext id => exact ⟨rfl, fun _ _ _ h => by cases h; exact hw'⟩
      | ret => exact ⟨rfl, fun _ _ _ h => by cases h; exact hw'⟩
  | cond o a b iha ihb =>
    intro hp en H hw
    simp only [plainC, Bool.and_eq_true] at hp
    simp only [evC, evCE, lookE_eq hw]
    generalize ev (frOf n en) o = q
    cases q with
    | s v => cases v with
      | bool t => cases t with
        | true => exact iha hp.1 en H hw
        | false => exact ihb hp.2 en H hw
      | _ => exact ⟨rfl, fun _ _ _ h => by cases h⟩
    | _ => exact ⟨rfl, fun _ _ _ h => by cases h⟩
  | block id c ih =>
    intro hp en H hw
    obtain ⟨h1, h2⟩ := ih hp en H hw
    simp only [evC, evCE, h1]
    cases hr : evCE n call j base c en H with
    | none => exact ⟨rfl, fun _ _ _ h => by cases h⟩
    | some r =>
      obtain ⟨e, en', H'⟩ := r
      have hw' := h2 _ _ _ hr
      cases e with
      | nrm => exact ⟨rfl, fun _ _ _ h => by cases h; exact hw'⟩
      | ret => exact ⟨rfl, fun _ _ _ h => by cases h; exact hw'⟩
      | ext id' =>
        refine ⟨?_, fun _ _ _ h => by cases h; exact hw'⟩
        simp only [up]
        by_cases e : id' = id
        · have : Nat.beq id' id = true := by simpa using e
          rw [this, if_pos e]
        · have : Nat.beq id' id = false := by
            cases hb : Nat.beq id' id with
            | true => exact absurd (Nat.eq_of_beq_eq_true hb) e
            | false => rfl
          rw [this, if_neg e]
  | loop kill c ih =>
    intro hp en H hw
    simp only [evC, evCE, fSp_eq, ← compact_kill]
    exact iterE_eq (fun en H hw => ih hp en H hw) kill H.length j _ H (compact_wf hw)
  | rangeFunc f params a b _ _ =>
    intro _ en H hw
    have hw' := compact_wf (mask := 0) hw
    simp only [evC, evCE, fSp_eq]
    rw [← compact_zero (en := en), lookE_eq hw']
    generalize ev (frOf n (compactE 0 en)) f = q
    cases q with
    | fn k x y =>
      simp only []
      cases call (.fn k x y) [.yld H.length] base (H ++ [.loop .ready none (frOf n (compactE 0 en)) params a b]) with
      | none => exact ⟨rfl, fun _ _ _ h => by cases h⟩
      | some r =>
        obtain ⟨v, H1⟩ := r
        simp only [← trimE_eq hw]
        generalize H1[H.length]? = q
        cases q with
        | none => exact ⟨rfl, fun _ _ _ h => by cases h⟩
        | some ob =>
          cases ob with
          | loop st pend t p x y =>
            cases st <;> cases pend <;> first | exact ⟨rfl, fun _ _ _ h => by cases h; exact hw'⟩ | exact ⟨rfl, fun _ _ _ h => by cases h⟩
          | _ => exact ⟨rfl, fun _ _ _ h => by cases h⟩
    | _ => exact ⟨rfl, fun _ _ _ h => by cases h⟩
noncomputable def evCallE (CP : Nat → Option CFun) (call : CallF) (j : Nat) (v : V) (args : List V) (base : Nat) (H : Heap) : Option (V × Heap) :=
  match v with
  | .fn f fst cap => match CP f with
    | some (.code c) =>
      match plainC c.body with
      | true =>
        fVs (fst ++ args ++ cap) fun vs =>
        match Nat.ble vs.length c.ntmps with
        | true => match evCE c.ntmps call j base c.body (startV c.ntmps vs 0) H with
          | some (.nrm, en, H') => (resultV c.results (frOf c.ntmps en) H').map fun v => (v, H')
          | some (.ret, en, H') => (resultV c.results (frOf c.ntmps en) H').map fun v => (v, H')
          | _ => none
        | false => evCall CP call (fun b k m => iterN b k m j) v args base H
      | false => evCall CP call (fun b k m => iterN b k m j) v args base H
    | some (.prim g) => g (fst ++ args ++ cap) base H
    | none => none
  | v => evCall CP call (fun b k m => iterN b k m j) v args base H
theorem startV_wf (n : Nat) : ∀ (vs : List V) (k : Nat), vs.length + k ≤ n → wfE n (startV n vs k) := by
  intro vs
  induction vs with
  | nil =>
    intro k hk p hp
    simp only [startV, List.mem_map] at hp
    obtain ⟨s, hs, rfl⟩ := hp
    rw [List.mem_range'] at hs
    obtain ⟨i, hi, rfl⟩ := hs
    show k + 1 * i < n
    omega
  | cons v vs ih =>
    intro k hk p hp
    simp only [List.length_cons] at hk
    rcases List.mem_cons.1 hp with rfl | hp
    · show k < n; omega
    · exact ih (k + 1) (by omega) p hp
theorem evCallE_eq (CP : Nat → Option CFun) (call : CallF) (j : Nat) (v : V) (args : List V) (base : Nat) (H : Heap) : evCallE CP call j v args base H = evCall CP call (fun b k m => iterN b k m j) v args base H := by
  cases v <;> first | rfl | skip
  rename_i f fst cap
  simp only [evCallE, fVs_eq]
  cases hc : CP f with
  | none => simp only [evCall, hc]
  | some cf =>
    cases cf with
    | prim g => simp only [evCall, hc]
    | code c =>
      simp only []
      cases hp : plainC c.body with
      | false => rfl
      | true =>
        simp only []
        cases hl : Nat.ble (fst ++ args ++ cap).length c.ntmps with
        | false => rfl
        | true =>
          have hl := Nat.le_of_ble_eq_true hl
          simp only [evCall, hc]
          rw [start_eq hl]
          obtain ⟨h1, h2⟩ := evCE_eq c.ntmps call j base c.body hp _ H (startV_wf c.ntmps _ 0 (by omega))
          rw [h1]
          cases evCE c.ntmps call j base c.body (startV c.ntmps (fst ++ args ++ cap) 0) H with
          | none => rfl
          | some r => obtain ⟨e, en, H'⟩ := r; cases e <;> rfl
noncomputable def callE (CP : Nat → Option CFun) : Nat → CallF
  | 0 => fun _ _ _ _ => none
  | n + 1 => evCallE CP (callE CP n) n
theorem callE_eq (CP : Nat → Option CFun) : ∀ n, callE CP n = callN CP n
  | 0 => rfl
  | n + 1 => by
    funext v args base H
    simp only [callE, callN, evCallE_eq, callE_eq CP n]
open Go.RowKit
noncomputable def givesE (CP : Nat → Option CFun) (n k : Nat) : Option V := (callE CP n (.fn k [] []) [] 0 []).bind fun r => frz r.2 12 r.1
end Go.AM
namespace Go.AM
section
variable {call : CallF} {it : IterF} {base : Nat}
end
section
variable (call : CallF) (it : IterF) (base : Nat)
end
end Go.AM
namespace Go.AM
def Rd (H : Heap) (v : V) (l : List V) : Prop := (∀ b, v ≠ .s (.string b)) ∧ elems H 1 v = some (l.length, l)
theorem Rd.nil (H : Heap) : Rd H nilS [] := ⟨fun _ h => (by cases h), rfl⟩
theorem Rd.esl (H : Heap) : Rd H .esl [] := ⟨fun _ h => (by cases h), rfl⟩
theorem Rd.psl (H : Heap) (l : List V) : Rd H (.psl (l.map fun x => [x]) 1) l := by
  refine ⟨fun _ h => by (cases h), ?_⟩
  simp only [elems, if_true, List.length_map]
  congr 2
  induction l with
  | nil => rfl
  | cons x l ih => simp [ih]
theorem Rd.sl {H : Heap} {id g : Nat} {c : List V} (h : getC H id g = some c) {off n : Nat} (hn : off + n ≤ c.length) : Rd H (.sl id g off n 1) ((c.drop off).take n) := by
  refine ⟨fun _ h => by (cases h), ?_⟩
  have : ((c.drop off).take n).length = n := by simp; omega
  simp only [elems, if_true, h, Nat.mul_one, this]
theorem Rd.cases {H : Heap} {v : V} {l : List V} (h : Rd H v l) : (l = [] ∧ (v = nilS ∨ v = .esl)) ∨ (∃ es, v = .psl es 1 ∧ es.flatten = l ∧ es.length = l.length) ∨ ∃ id g off n c, v = .sl id g off n 1 ∧ getC H id g = some c ∧ (c.drop off).take n = l ∧ n = l.length := by
  obtain ⟨h1, h2⟩ := h
  unfold elems at h2
  split at h2
  · simp only [Option.some.injEq, Prod.mk.injEq] at h2; exact .inl ⟨h2.2.symm, .inl rfl⟩
  · exact absurd rfl (h1 _)
  · simp only [Option.some.injEq, Prod.mk.injEq] at h2; exact .inl ⟨h2.2.symm, .inr rfl⟩
  · rename_i es sz
    split at h2
    · rename_i hz; subst hz; simp only [Option.some.injEq, Prod.mk.injEq] at h2; exact .inr (.inl ⟨es, rfl, h2.2, h2.1⟩)
    · cases h2
  · rename_i id g off len sz
    split at h2
    · rename_i hz
      subst hz
      split at h2
      · rename_i c hc
        simp only [Nat.mul_one] at h2
        split at h2
        · simp only [Option.some.injEq, Prod.mk.injEq] at h2
          exact .inr (.inr ⟨id, g, off, len, c, rfl, hc, h2.2, h2.1⟩)
        · cases h2
      · cases h2
    · cases h2
  · cases h2
theorem Rd.len {H : Heap} {v : V} {l : List V} (h : Rd H v l) : xLen H .s v = some (.s (.int .i64 l.length)) := by
  rcases h.cases with ⟨rfl, rfl | rfl⟩ | ⟨es, rfl, _, e⟩ | ⟨id, g, off, n, c, rfl, _, _, e⟩
  · rfl
  · rfl
  · simp only [xLen, e]; rfl
  · simp only [xLen, e]; rfl
def Wide1 : V → Prop
  | .psl es _ => ∀ e ∈ es, e.length = 1
  | _ => True
theorem flatten_get {es : List (List V)} (h : ∀ e ∈ es, e.length = 1) : ∀ {i : Nat} {x : V}, es.flatten[i]? = some x → es[i]? = some [x] := by
  induction es with
  | nil => intro i x hx; simp at hx
  | cons e es ih =>
    intro i x hx
    have he := h e List.mem_cons_self
    match e, he with
    | [y], _ =>
      cases i with
      | zero => simp at hx ⊢; exact hx
      | succ i => simp at hx ⊢; exact ih (fun e he => h e (List.mem_cons_of_mem _ he)) hx
theorem Rd.at {H : Heap} {v : V} {l : List V} (h : Rd H v l) (hw : Wide1 v) {i : Nat} {x : V} (hx : l[i]? = some x) : V1 (xLoad H false 1) (xIndexAddr 1 v (.s (.int .i64 i))) = some x := by
  have hi : i < l.length := (List.getElem?_eq_some_iff.1 hx).1
  have h0 : (0 : Int) ≤ (i : Int) := by omega
  rcases h.cases with ⟨rfl, _⟩ | ⟨es, rfl, e1, e2⟩ | ⟨id, g, off, n, c, rfl, hc, e1, e2⟩
  · simp at hx
  · have : es[i]? = some [x] := flatten_get hw (by rw [e1]; exact hx)
    simp only [xIndexAddr, h0, true_and, if_true, Int.toNat_natCast, this, Option.map_some, V1, xLoad, loadV]
    rfl
  · have hn : ((i : Int) < (n : Int)) := by omega
    have hcx : c[off + i]? = some x := by
      have : ((c.drop off).take n)[i]? = some x := by rw [e1]; exact hx
      rw [List.getElem?_take_of_lt (by omega), List.getElem?_drop] at this
      exact this
    have : ((c.drop (off + i)).take 1) = [x] := by
      have hlt := (List.getElem?_eq_some_iff.1 hcx).1
      rw [List.drop_eq_getElem_cons hlt]
      have := (List.getElem?_eq_some_iff.1 hcx).2
      simp [this]
    simp only [xIndexAddr, h0, hn, and_self, if_true, Int.toNat_natCast, Nat.mul_one, V1, xLoad, loadV, hc, this]
    rfl
theorem getC_app {H G : Heap} {id g : Nat} {c : List V} (h : getC H id g = some c) : getC (H ++ G) id g = some c := by
  unfold getC at h ⊢
  split at h
  · rename_i g' c' hh
    rw [List.getElem?_append_left (List.getElem?_eq_some_iff.1 hh).1, hh]
    exact h
  · cases h
theorem Rd.app {H : Heap} {v : V} {l : List V} (h : Rd H v l) (G : Heap) : Rd (H ++ G) v l := by
  rcases h.cases with ⟨rfl, rfl | rfl⟩ | ⟨es, rfl, e1, e2⟩ | ⟨id, g, off, n, c, rfl, hc, e1, e2⟩
  · exact Rd.nil _
  · exact Rd.esl _
  · exact ⟨h.1, h.2⟩
  · refine ⟨h.1, ?_⟩
    have : ((c.drop off).take n).length = n := by rw [e1, e2]
    simp only [elems, if_true, getC_app hc, Nat.mul_one, this, e1]
    rw [e2, if_pos rfl]
theorem getC_set {H : Heap} {id g : Nat} {c c' : List V} (h : getC H id g = some c) (g' : Nat) : getC (H.set id (.cells g' c')) id g' = some c' := by
  have : id < H.length := by
    unfold getC at h
    split at h
    · rename_i hh; exact (List.getElem?_eq_some_iff.1 hh).1
    · cases h
  simp [getC, this]
def Ext (H0 H : Heap) : Prop := ∃ G, H = H0 ++ G
theorem Ext.refl (H : Heap) : Ext H H := ⟨[], by simp⟩
theorem Ext.trans {A B C : Heap} (h : Ext A B) (k : Ext B C) : Ext A C := by
  obtain ⟨G, rfl⟩ := h
  obtain ⟨K, rfl⟩ := k
  exact ⟨G ++ K, by simp⟩
theorem Ext.app (H G : Heap) : Ext H (H ++ G) := ⟨G, rfl⟩
theorem Ext.le {A B : Heap} (h : Ext A B) : A.length ≤ B.length := by obtain ⟨G, rfl⟩ := h; simp
theorem Ext.get {A B : Heap} (h : Ext A B) {i : Nat} (hi : i < A.length) : B[i]? = A[i]? := by obtain ⟨G, rfl⟩ := h; exact List.getElem?_append_left hi
theorem Ext.of_get {A B : Heap} (hl : A.length ≤ B.length) (h : ∀ i, i < A.length → B[i]? = A[i]?) : Ext A B := by
  refine ⟨B.drop A.length, ?_⟩
  refine List.ext_getElem? fun i => ?_
  by_cases hi : i < A.length
  · rw [List.getElem?_append_left hi, h i hi]
  · rw [List.getElem?_append_right (by omega), List.getElem?_drop]
    congr 1; omega
theorem Ext.set {A B : Heap} (h : Ext A B) {id : Nat} (hid : A.length ≤ id) (ob : Ob) : Ext A (B.set id ob) :=
  Ext.of_get (by rw [List.length_set]; exact h.le) fun i hi => by rw [List.getElem?_set_ne (by omega), h.get hi]
theorem Ext.take {A B : Heap} (h : Ext A B) {m : Nat} (hm : A.length ≤ m) : Ext A (B.take m) :=
  Ext.of_get (by rw [List.length_take]; have := h.le; omega) fun i hi => by rw [List.getElem?_take_of_lt (by omega), h.get hi]
theorem trim_or (m : Nat) (fr : List V) (H : Heap) : trim m fr H = H ∨ (trim m fr H = H.take m ∧ ∀ v ∈ fr, idsUnder m 8 v = true) := by
  unfold trim
  split
  · rename_i h
    simp only [Bool.and_eq_true, List.all_eq_true] at h
    exact .inr ⟨rfl, h.1⟩
  · exact .inl rfl
theorem Ext.trim {A B : Heap} (h : Ext A B) {m : Nat} (hm : A.length ≤ m) (fr : List V) : Ext A (trim m fr B) := by
  rcases trim_or m fr B with e | ⟨e, _⟩ <;> rw [e]
  · exact h
  · exact h.take hm
theorem Rd.ext {H H' : Heap} {v : V} {l : List V} (h : Rd H v l) (k : Ext H H') : Rd H' v l := by obtain ⟨G, rfl⟩ := k; exact h.app G
theorem getC_lt {H : Heap} {id g : Nat} {c : List V} (h : getC H id g = some c) : id < H.length := by
  unfold getC at h
  split at h
  · rename_i hh; exact (List.getElem?_eq_some_iff.1 hh).1
  · cases h
theorem getC_new (H : Heap) (g : Nat) (c : List V) : getC (H ++ [.cells g c]) H.length g = some c := by simp [getC]
def Acc (H0 H : Heap) (v : V) (l : List V) : Prop := Ext H0 H ∧ ((l = [] ∧ v = nilS) ∨ ∃ id g, v = .sl id g 0 l.length 1 ∧ getC H id g = some l ∧ H0.length ≤ id)
theorem Acc.start (H : Heap) : Acc H H nilS [] := ⟨Ext.refl H, .inl ⟨rfl, rfl⟩⟩
theorem Acc.rd {H0 H : Heap} {v : V} {l : List V} (h : Acc H0 H v l) : Rd H v l := by
  rcases h.2 with ⟨rfl, rfl⟩ | ⟨id, g, rfl, hc, _⟩
  · exact Rd.nil H
  · have := Rd.sl hc (off := 0) (n := l.length) (by omega)
    rwa [List.drop_zero, List.take_length] at this
theorem Acc.wide {H0 H : Heap} {v : V} {l : List V} (h : Acc H0 H v l) : Wide1 v := by
  rcases h.2 with ⟨_, rfl⟩ | ⟨id, g, rfl, _, _⟩ <;> trivial
theorem Acc.trim {H0 H : Heap} {v : V} {l : List V} (h : Acc H0 H v l) {m : Nat} (hm : H0.length ≤ m) {fr : List V} (hv : v ∈ fr) : Acc H0 (trim m fr H) v l := by
  refine ⟨h.1.trim hm fr, ?_⟩
  rcases h.2 with h2 | ⟨id, g, rfl, hc, hid⟩
  · exact .inl h2
  · refine .inr ⟨id, g, rfl, ?_, hid⟩
    rcases trim_or m fr H with e | ⟨e, hu⟩ <;> rw [e]
    · exact hc
    · have := hu _ hv
      simp only [idsUnder, decide_eq_true_eq] at this
      unfold getC at hc ⊢
      rw [List.getElem?_take_of_lt this]
      exact hc
theorem elems_new {H : Heap} {x : V} : elems (H ++ [.cells 0 [x]]) 1 (.sl H.length 0 0 1 1) = some (1, [x]) := by
  simp [elems, getC]
theorem Acc.append {H0 H : Heap} {v : V} {l : List V} (h : Acc H0 H v l) {base bytes : Nat} (hb : base ≤ H0.length) {x : V} (hx : x.one = true) (hs : (l.length + 1) * bytes ≤ 2 ^ 47) :
    ∃ v' H', appendV (H ++ [.cells 0 [x]]) base 1 bytes v (.sl H.length 0 0 1 1) = some (v', H') ∧ Acc H0 H' v' (l ++ [x]) := by
  have hx' : [x].all V.one = true := by simp [hx]
  rcases h.2 with ⟨rfl, rfl⟩ | ⟨id, g, rfl, hc, hid⟩
  · have hs' : 1 * bytes ≤ 2 ^ 47 := by simpa using hs
    refine ⟨.sl (H.length + 1) 0 0 1 1, H ++ [.cells 0 [x]] ++ [.cells 0 [x]], ?_, h.1.trans ⟨[.cells 0 [x], .cells 0 [x]], by simp⟩, .inr ⟨H.length + 1, 0, rfl, ?_, ?_⟩⟩
    · simp only [appendV, elems_new, hx', if_true, nilS, Nat.one_ne_zero, if_false, hs', List.length_append, List.length_cons, List.length_nil]
    · have := getC_new (H ++ [.cells 0 [x]]) 0 [x]
      simpa using this
    · have := h.1.le; omega
  · have hlt := getC_lt hc
    have hc' := getC_app hc (G := [Ob.cells 0 [x]])
    have hbi : base ≤ id := by omega
    refine ⟨.sl id (g + 1) 0 (l.length + 1) 1, (H ++ [Ob.cells 0 [x]]).set id (.cells (g + 1) (l ++ [x])), ?_, ?_, .inr ⟨id, g + 1, by simp, ?_, hid⟩⟩
    · have h2 : 0 + l.length ≤ l.length := by omega
      simp only [appendV, elems_new, hx', if_true, true_and, hbi, hc', h2, Nat.one_ne_zero, if_false, hs, List.drop_zero, Nat.mul_one, List.take_length]
    · exact (h.1.trans (Ext.app _ _)).set hid _
    · exact getC_set hc' _
theorem Rd.one {H : Heap} {v : V} {l : List V} (h : Rd H v l) : v.one = true := by
  rcases h.cases with ⟨_, rfl | rfl⟩ | ⟨es, rfl, _⟩ | ⟨id, g, off, n, c, rfl, _⟩ <;> rfl
end Go.AM
namespace Go.AM
open Go.RowKit
end Go.AM
namespace Go.AM
open Go.RowKit
section
variable {CC : CX} {μ : Mu} {Mt : Nat → Prop} {w w' : World} {H : Heap} {P : Program}
end
end Go.AM
namespace Go.AM
open Go.RowKit
abbrev PXf (fx : Nat → Option (Array Value × TypeId × Nat × Nat)) : PX := ⟨fun _ => false, fx⟩
abbrev PX0 : PX := PXf fun _ => none
theorem compK_fx (lt : List Nat) (P : Program) (fx : Nat → Option (Array Value × TypeId × Nat × Nat)) (k : Nat) : compKL lt P (PXf fx) k = compKL lt P PX0 k := rfl
theorem funOk_f {P : Program} (fx : Nat → Option (Array Value × TypeId × Nat × Nat)) {lt : List Nat} {k : Nat} {c : ACFun} (h : compKL lt P PX0 k = some (false, c.ntmps, c.results, c.body.bare)) : FunOk P (PXf fx) k (.code c) := funOk_of ((compK_fx lt P fx k).trans h)
section
variable {CC : CX} {μ : Mu} {Mt : Nat → Prop} {w w' : World} {H : Heap} {P : Program}
end
end Go.AM
