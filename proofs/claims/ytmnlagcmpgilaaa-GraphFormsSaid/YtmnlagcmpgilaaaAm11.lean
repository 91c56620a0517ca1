/-
  All operations without calls in one theorem.
-/
import Derived.Test.YtmnlagcmpgilaaaAm10
set_option linter.all false
namespace Go.AM
open Go.RowKit

section
variable {CC : Code → ACode → Prop} {μ μ' : Mu} {Mt Mt' : Nat → Prop} {w w' : World} {H H' : Heap} {P : Program}

theorem load_res (h : HR CC μ Mt w H) {t : TypeId} {agg : Bool} {n : Nat} (hs : shapeT P t = some (agg, n)) {x v : V} {c : Value} (hx : VR μ Mt w x c) (hv : loadV H agg n x = some v) :
    OpRes CC μ Mt w H ((do pure (.value (← Instr.loadAt t c)) : Sem Next).run P w) v H := by
  obtain ⟨r, h1, h2⟩ := loadV_sim (P := P) hs h hx hv
  exact OpRes.still h h2 (by simp only [Sem.run_bind, h1, Result.andThen_ok, Sem.run_pure])

theorem store_res (h : HR CC μ Mt w H) {t : TypeId} {agg : Bool} {n base : Nat} (hs : shapeT P t = some (agg, n)) {x y : V} {c d : Value} (hx : VR μ Mt w x c) (hy : VR μ Mt w y d) (hv : storeV H base n y x = some H') :
    OpRes CC μ Mt w H ((do Instr.storeAt t c d; pure .skip : Sem Next).run P w) und H' := by
  obtain ⟨_, h2, _⟩ := shapeT_agg hs
  unfold storeV at hv
  split at hv
  case h_2 => cases hv
  rename_i id g off
  split at hv
  case isFalse => cases hv
  split at hv
  case h_2 => cases hv
  rename_i row hrow
  split at hv
  case isFalse => cases hv
  rename_i hcond
  obtain ⟨hn, hl, hone⟩ := hcond
  cases hv
  obtain ⟨B, b, hm, rfl⟩ := vr_ref hx
  have hcv := vr_cells hy hone
  obtain ⟨w1, hr, hp⟩ := post_store (P := P) h hrow hm (by rw [hn]; exact hl) hcv hone
  refine ⟨Go.undef, w1, _, _, .inr ⟨?_, rfl⟩, .s _, hp⟩
  have hsz : d.cells.size = n := by rw [← hn, hcv.1]; simp
  simp only [Instr.storeAt, Instr.sureAddr, storeVar, Sem.run_bind, Sem.run_pure, Result.andThen_ok, run_sizeOf h2, Sem.run_ite, hsz, ne_eq, not_true_eq_false, if_false, hr]

theorem bndR_of {a : Act} {fr : List V} (hf : FR μ Mt w fr a.tmps) {x : Option Operand} {y : Option Opd} (hc : compOpt x = some y) {d : Nat} {l : Int} (h : bndA fr d y = some l) : BndR (x.map a.eval) d l := by
  cases x with
  | none => simp [compOpt] at hc; subst hc; simp [bndA] at h; exact .inl ⟨rfl, h.symm⟩
  | some x =>
    simp only [compOpt, Option.map_eq_some_iff] at hc
    obtain ⟨z, hz, rfl⟩ := hc
    have hv := opd_vr hf hz
    simp only [bndA] at h
    unfold intOf? at h
    split at h
    · rename_i k n e
      rw [e] at hv
      cases h
      exact .inr ⟨k, by simp [vr_s hv]⟩
    · cases h

theorem intOf_vr {x : V} {c : Value} {n : Int} (hx : VR μ Mt w x c) (h : intOf? x = some n) : ∃ k, c = .int k n := by
  unfold intOf? at h
  split at h
  · cases h; exact ⟨_, vr_s hx⟩
  · cases h

set_option maxHeartbeats 1000000 in
theorem op_sim (h : HR CC μ Mt w H) {a : Act} {fr : List V} (hf : FR μ Mt w fr a.tmps) {pure' : Nat → Bool} {o : Oper} {aop : AOp} {call : CallF} {base : Nat} {v : V} (hc : compOp P pure' o = some aop) (hnc : aop.isCall = false)
    (hev : evOp call base fr H aop = some (v, H')) : OpRes CC μ Mt w H ((execOp a.eval o).run P w) v H' := by
  obtain ⟨dst, op, type, pos, after, guard⟩ := o
  cases op <;> simp only [compOp] at hc
  case move x =>
    rw [Option.map_eq_some_iff] at hc; obtain ⟨y, hy, rfl⟩ := hc
    cases hev
    exact OpRes.still h (opd_vr hf hy) rfl
  case assign x =>
    rw [Option.map_eq_some_iff] at hc; obtain ⟨y, hy, rfl⟩ := hc
    cases hev
    exact OpRes.still h (opd_vr hf hy) rfl
  case pick c x y =>
    simp only [Option.bind_eq_bind, Option.bind_eq_some_iff, Option.pure_def] at hc
    obtain ⟨c', hc', x', hx', y', hy', e⟩ := hc
    cases e
    have hcv := opd_vr hf hc'
    simp only [evOp] at hev
    split at hev
    · rename_i e; rw [e] at hcv
      cases hev
      exact OpRes.still h (opd_vr hf hx') (by simp [execOp, vr_s hcv, asBool])
    · rename_i e; rw [e] at hcv
      cases hev
      exact OpRes.still h (opd_vr hf hy') (by simp [execOp, vr_s hcv, asBool])
    · cases hev
  case alloc t =>
    split at hc
    · rename_i z hz
      cases hc; cases hev
      exact sim_alloc h hz
    · cases hc
  case box t x =>
    rw [Option.map_eq_some_iff] at hc; obtain ⟨y, hy, rfl⟩ := hc
    simp only [evOp] at hev
    split at hev
    · rename_i h1; cases hev; exact sim_box h (opd_vr hf hy) h1
    · cases hev
  case build t parts =>
    simp only [Option.bind_eq_bind, Option.bind_eq_some_iff] at hc
    obtain ⟨z, hz, hc⟩ := hc
    split at hc
    · rename_i fs ht
      simp only [Option.pure_def, Option.bind_eq_some_iff] at hc
      obtain ⟨pl, hpl, qs, hqs, e⟩ := hc
      cases e
      simp only [evOp] at hev
      split at hev
      · rename_i cs hfill; cases hev; exact sim_build h hf hz ht hpl hqs hfill
      · cases hev
    · cases hc
  case buildSlice t len parts =>
    simp only [Option.bind_eq_bind, Option.bind_eq_some_iff] at hc
    obtain ⟨e, he, sz, hsz, z, hz, hc⟩ := hc
    have ht : P.underlying t = some (.slice e) := by
      unfold elemT at he
      split at he
      · cases he; assumption
      · cases he
    split at hc
    · rename_i hcond
      obtain ⟨h0, hb, hzl⟩ := hcond
      simp only [Option.pure_def, Option.bind_eq_some_iff] at hc
      obtain ⟨qs, hqs, e⟩ := hc
      cases e
      simp only [evOp] at hev
      split at hev
      · rename_i cs hfill; cases hev; exact sim_buildSl h hf ht hsz hz h0 hb hzl hqs hfill
      · cases hev
    · cases hc
  case insert t m k x =>
    split at hc
    · rename_i kt e ht
      simp only [Option.bind_eq_bind, Option.bind_eq_some_iff, Option.pure_def] at hc
      obtain ⟨kind, hk, m', hm', k', hk', x', hx', e⟩ := hc
      cases e
      simp only [evOp] at hev
      split at hev
      · rename_i id key e1 e2
        split at hev
        · rename_i hcond
          split at hev
          · rename_i es hH
            have hmv := opd_vr hf hm'
            have hkv := opd_vr hf hk'
            rw [e1] at hmv
            rw [e2] at hkv
            have := sim_mapUpd h ht hk hmv (opd_vr hf hx') hcond.2 hH hev
            simpa only [execOp, vr_s hkv] using this
          · cases hev
        · cases hev
      · cases hev
    · cases hc
  case mapUpdate t m k x =>
    split at hc
    · rename_i kt e ht
      simp only [Option.bind_eq_bind, Option.bind_eq_some_iff, Option.pure_def] at hc
      obtain ⟨kind, hk, m', hm', k', hk', x', hx', e⟩ := hc
      cases e
      simp only [evOp] at hev
      split at hev
      · rename_i id key e1 e2
        split at hev
        · rename_i hcond
          split at hev
          · rename_i es hH
            have hmv := opd_vr hf hm'
            have hkv := opd_vr hf hk'
            rw [e1] at hmv
            rw [e2] at hkv
            have := sim_mapUpd h ht hk hmv (opd_vr hf hx') hcond.2 hH hev
            simpa only [execOp, vr_s hkv] using this
          · cases hev
        · cases hev
      · cases hev
    · cases hc
  case lookup t m k ok =>
    split at hc
    · rename_i kt e ht
      simp only [Option.bind_eq_bind, Option.bind_eq_some_iff, Option.pure_def] at hc
      obtain ⟨kind, hk, z, hz, m', hm', k', hk', e⟩ := hc
      cases e
      simp only [evOp] at hev
      split at hev
      · rename_i key e2
        split at hev
        · rename_i hkey
          have hkv := opd_vr hf hk'
          rw [e2] at hkv
          have := sim_mapGet h ht hk hz (opd_vr hf hm') hkey hev
          simpa only [execOp, vr_s hkv] using this
        · cases hev
      · cases hev
    · cases hc
  case load t x =>
    simp only [Option.bind_eq_bind, Option.bind_eq_some_iff, Option.pure_def] at hc
    obtain ⟨⟨agg, n⟩, hs, x', hx', e⟩ := hc
    cases e
    simp only [evOp, Option.map_eq_some_iff] at hev
    obtain ⟨r, hr, e⟩ := hev
    cases e
    exact load_res h hs (opd_vr hf hx') hr
  case store t x y =>
    simp only [Option.bind_eq_bind, Option.bind_eq_some_iff, Option.pure_def] at hc
    obtain ⟨⟨agg, n⟩, hs, x', hx', y', hy', e⟩ := hc
    cases e
    simp only [evOp, Option.map_eq_some_iff] at hev
    obtain ⟨r, hr, e⟩ := hev
    cases e
    exact store_res h hs (opd_vr hf hx') (opd_vr hf hy') hr
  case nilCheck x =>
    rw [Option.map_eq_some_iff] at hc; obtain ⟨y, hy, rfl⟩ := hc
    have hv := opd_vr hf hy
    simp only [evOp] at hev
    split at hev
    · rename_i e; rw [e] at hv; cases hev
      obtain ⟨B, b, hm, ec⟩ := vr_ref hv
      exact OpRes.still h hv (by simp [execOp, ec])
    · rename_i e; rw [e] at hv; cases hev
      obtain ⟨p, ec, _⟩ := pref_place hv
      exact OpRes.still h hv (by simp [execOp, ec])
    · rename_i f fst cap e; rw [e] at hv; cases hev
      generalize hcv : a.eval x = c at hv
      cases hv with
      | fn _ _ _ fst' cap' h1 h2 h3 h4 => exact OpRes.still h (.fn f fst cap fst' cap' h1 h2 h3 h4) (by simp [execOp, hcv])
    · rename_i id e; rw [e] at hv; cases hev
      generalize hcv : a.eval x = c at hv
      cases hv with
      | yld _ B hm => exact OpRes.still h (.yld id B hm) (by simp [execOp, hcv])
    · cases hev
  case binOp op t x y ty =>
    unfold compBin at hc
    split at hc
    · rename_i neg k ho hn
      rw [Option.map_eq_some_iff] at hc; obtain ⟨x', hx', rfl⟩ := hc
      simp only [evOp] at hev
      split at hev
      · rename_i b hb; cases hev
        exact OpRes.still h (.s _) (run_eqNil ho (opd_vr hf hx') hb a.eval (fun _ => rfl) (.inl ⟨hn, rfl⟩))
      · cases hev
    · rename_i neg k ho _ hn
      rw [Option.map_eq_some_iff] at hc; obtain ⟨x', hx', rfl⟩ := hc
      simp only [evOp] at hev
      split at hev
      · rename_i b hb; cases hev
        exact OpRes.still h (.s _) (run_eqNil ho (opd_vr hf hx') hb a.eval (fun _ => rfl) (.inr ⟨hn, rfl⟩))
      · cases hev
    · split at hc
      · rename_i x' y' ht hx' hy'
        cases hc
        simp only [evOp] at hev
        split at hev
        · rename_i p q e1 e2
          rw [Option.map_eq_some_iff] at hev
          obtain ⟨r, hr, e⟩ := hev
          cases e
          have h1 := opd_vr hf hx'
          have h2 := opd_vr hf hy'
          rw [e1] at h1
          rw [e2] at h2
          exact OpRes.still h (.s _) (by simp only [execOp, vr_s h1, vr_s h2]; exact run_bin hr)
        · cases hev
      · rename_i x' y' ht hx' hy'
        cases hc
        simp only [evOp] at hev
        split at hev
        · rename_i p q e1 e2
          rw [Option.map_eq_some_iff] at hev
          obtain ⟨r, hr, e⟩ := hev
          cases e
          have h1 := opd_vr hf hx'
          have h2 := opd_vr hf hy'
          rw [e1] at h1
          rw [e2] at h2
          exact OpRes.still h (.s _) (by simp only [execOp, vr_s h1, vr_s h2]; exact run_bin hr)
        · cases hev
      · rename_i x' y' ht hx' hy'
        split at hc
        · rename_i neg ho
          cases hc
          simp only [evOp] at hev
          split at hev
          · rename_i p q e1 e2
            cases hev
            have h1 := opd_vr hf hx'
            have h2 := opd_vr hf hy'
            rw [e1] at h1
            rw [e2] at h2
            exact OpRes.still h (.s _) (by simp only [execOp, vr_s h1, vr_s h2]; exact run_eqB ho ht)
          · cases hev
        · cases hc
      · rename_i fs x' y' ht hx' hy'
        split at hc
        · rename_i neg ls ho hls
          split at hc
          · cases hc
          · rename_i hg
            cases hc
            simp only [evOp] at hev
            split at hev
            · rename_i xs ys e1 e2
              split at hev
              · rename_i b hb
                cases hev
                have h1 := opd_vr hf hx'
                have h2 := opd_vr hf hy'
                rw [e1] at h1
                rw [e2] at h2
                obtain ⟨c1, k1, v1⟩ := vr_agg h1
                obtain ⟨c2, k2, v2⟩ := vr_agg h2
                exact OpRes.still h (.s _) (by simp only [execOp, k1, k2]; exact run_eqAgg ho ht (by simpa using hg) hls v1 v2 hb)
              · cases hev
            · cases hev
        · cases hc
      · cases hc
  case unOp op t x =>
    simp only [Option.bind_eq_bind] at hc
    have key : ∀ x', compOpd x = some x' → aop = .un op x' → OpRes CC μ Mt w H ((execOp a.eval ⟨dst, .unOp op t x, type, pos, after, guard⟩).run P w) v H' := by
      intro x' hx' he
      subst he
      have hv := opd_vr hf hx'
      simp only [evOp] at hev
      split at hev
      · rename_i b e; rw [e] at hv; cases hev
        exact OpRes.still h (.s _) (by simp [execOp, vr_s hv, Op.unary])
      · rename_i k n e; rw [e] at hv; cases hev
        exact OpRes.still h (.s _) (by simp [execOp, vr_s hv, Op.unary, Op.intArith])
      · rename_i k n e; rw [e] at hv
        rw [Option.map_eq_some_iff] at hev
        obtain ⟨r, hr, e⟩ := hev
        cases e
        simp only [binS, ne_eq, not_true_eq_false, if_false, Option.some.injEq] at hr
        subst hr
        exact OpRes.still h (.s _) (by simp [execOp, vr_s hv, Op.unary, Op.intBits])
      · cases hev
    cases op
    case plus => cases hc
    all_goals
      rw [Option.bind_eq_some_iff] at hc
      obtain ⟨x', hx', e⟩ := hc
      cases e
      exact key x' hx' rfl
  case convert src dst' x =>
    split at hc
    · rename_i k1 k2 hs hd
      rw [Option.map_eq_some_iff] at hc; obtain ⟨x', hx', rfl⟩ := hc
      have hv := opd_vr hf hx'
      simp only [evOp] at hev
      split at hev
      · rename_i q n e; rw [e] at hv; cases hev
        exact OpRes.still h (.s _) (by simp [execOp, vr_s hv, convert, run_underlying hs, run_underlying hd, Conv.intToInt])
      · cases hev
    · rename_i hs hd
      rw [Option.map_eq_some_iff] at hc; obtain ⟨x', hx', rfl⟩ := hc
      have hv := opd_vr hf hx'
      simp only [evOp] at hev
      split at hev
      · rename_i q e; rw [e] at hv; cases hev
        exact OpRes.still h (.s _) (by simp [execOp, vr_s hv, convert, run_underlying hs, run_underlying hd])
      · cases hev
    · cases hc
  case makeFunc fn first cap =>
    cases fn <;> simp only at hc
    case func f =>
      simp only [Option.bind_eq_bind, Option.bind_eq_some_iff, Option.pure_def] at hc
      obtain ⟨x, hx, y, hy, e⟩ := hc
      cases e
      cases hev
      have h1 := opds_vr hf hx
      have h2 := opds_vr hf hy
      refine OpRes.still h (c := .func (.func f) (first.map a.eval) (cap.map a.eval)) (.fn f _ _ _ _ (by simpa using h1.1) (by simpa using h2.1) (fun i p q hp hq => h1.2 i p q hp (by simpa using hq)) (fun i p q hp hq => h2.2 i p q hp (by simpa using hq))) rfl
    all_goals cases hc
  case makeMap t r =>
    cases r <;> simp only at hc
    · cases hc; cases hev; exact sim_mapNew h t
    · cases hc
  case makeSlice t x y =>
    simp only [Option.bind_eq_bind, Option.bind_eq_some_iff] at hc
    obtain ⟨e, he, i, hi, z, hz, hc⟩ := hc
    have ht : P.underlying t = some (.slice e) := by
      unfold elemT at he
      split at he
      · cases he; assumption
      · cases he
    split at hc
    · rename_i hcond
      simp only [Option.pure_def, Option.bind_eq_some_iff] at hc
      obtain ⟨x', hx', y', hy', e⟩ := hc
      cases e
      simp only [evOp] at hev
      split at hev
      · rename_i k1 l k2 c e1 e2
        split at hev
        · rename_i hb
          cases hev
          have h1 := opd_vr hf hx'
          have h2 := opd_vr hf hy'
          rw [e1] at h1
          rw [e2] at h2
          have := sim_mkSl (k1 := k1) (k2 := k2) h ht hi hz hcond.1 hcond.2.1 hcond.2.2 hb.1 hb.2.1 hb.2.2
          simpa only [execOp, vr_s h1, vr_s h2] using this
        · cases hev
      · cases hev
    · cases hc
  case slice t x lo hi mx =>
    split at hc
    · rename_i ht
      cases mx <;> simp only at hc
      · simp only [Option.bind_eq_bind, Option.bind_eq_some_iff, Option.pure_def] at hc
        obtain ⟨x', hx', lo', hlo', hi', hhi', e⟩ := hc
        cases e
        simp only [evOp] at hev
        split at hev
        · rename_i b e1
          split at hev
          · rename_i l hh el eh
            split at hev
            · rename_i hcond
              cases hev
              have h1 := opd_vr hf hx'
              rw [e1] at h1
              have := run_subStr (P := P) (w := w) ht (bndR_of hf hlo' el) (bndR_of hf hhi' eh) hcond.1 hcond.2.1 hcond.2.2
              exact OpRes.still h (.s _) (by simpa only [execOp, vr_s h1, Option.map_none] using this)
            · cases hev
          · cases hev
        · cases hev
      · cases hc
    · rename_i e ht
      simp only [Option.bind_eq_bind, Option.bind_eq_some_iff] at hc
      obtain ⟨sz, hsz, hc⟩ := hc
      split at hc
      · simp only [Option.pure_def, Option.bind_eq_some_iff] at hc
        obtain ⟨x', hx', lo', hlo', hi', hhi', mx', hmx', e⟩ := hc
        cases e
        have h1 := opd_vr hf hx'
        simp only [evOp] at hev
        cases mx with
        | none =>
          simp [compOpt] at hmx'
          subst hmx'
          simp only at hev
          haveI : ∀ (d hh : Int), Decidable (BndR (hi.map a.eval) d hh) := fun _ _ => Classical.propDecidable _
          have run : ∀ (l hh : Int) (u : V), BndR (lo.map a.eval) 0 l → (match ev fr x' with
              | .s (.slice none 0 0) => if BndR (hi.map a.eval) 0 hh ∧ l = 0 ∧ hh = 0 then some nilS else none
              | .esl => if BndR (hi.map a.eval) 0 hh ∧ l = 0 ∧ hh = 0 then some .esl else none
              | .psl es sz' => if BndR (hi.map a.eval) es.length hh ∧ 0 ≤ l ∧ l ≤ hh ∧ hh ≤ es.length ∧ sz' = sz then some (V.psl ((es.drop l.toNat).take (hh - l).toNat) sz) else none
              | .sl id g off len sz' => if BndR (hi.map a.eval) len hh ∧ 0 ≤ l ∧ l ≤ hh ∧ hh ≤ len ∧ sz' = sz then some (V.sl id g (off + l.toNat * sz) (hh - l).toNat sz) else none
              | _ => none) = some u → OpRes CC μ Mt w H ((execOp a.eval ⟨dst, .slice t x lo hi none, type, pos, after, guard⟩).run P w) u H := by
            intro l hh u hl he
            have := sim_subSl h ht hsz h1 hl (hi := hi.map a.eval) (hh := hh) he
            simpa only [execOp, Option.map_none] using this
          split at hev
          · rename_i e1
            split at hev
            · rename_i el eh
              cases hev
              exact run 0 0 _ (bndR_of hf hlo' el) (by rw [e1]; simp only; rw [if_pos ⟨bndR_of hf hhi' eh, by trivial, by trivial⟩])
            · cases hev
          · rename_i e1
            split at hev
            · rename_i el eh
              cases hev
              exact run 0 0 _ (bndR_of hf hlo' el) (by rw [e1]; simp only; rw [if_pos ⟨bndR_of hf hhi' eh, by trivial, by trivial⟩])
            · cases hev
          · rename_i es sz' e1
            split at hev
            · rename_i l hh el eh
              split at hev
              · rename_i hcond
                cases hev
                exact run l hh _ (bndR_of hf hlo' el) (by rw [e1]; simp only; rw [if_pos ⟨bndR_of hf hhi' eh, hcond⟩])
              · cases hev
            · cases hev
          · rename_i id g off len sz' e1
            split at hev
            · rename_i l hh el eh
              split at hev
              · rename_i hcond
                cases hev
                exact run l hh _ (bndR_of hf hlo' el) (by rw [e1]; simp only; rw [if_pos ⟨bndR_of hf hhi' eh, hcond⟩])
              · cases hev
            · cases hev
          · cases hev
        | some m =>
          simp only [compOpt, Option.map_eq_some_iff] at hmx'
          obtain ⟨m', hm', rfl⟩ := hmx'
          simp only at hev
          split at hev
          · rename_i h' eh el
            cases hi with
            | none => simp [compOpt] at hhi'
            | some hi =>
              simp only [compOpt, Option.map_eq_some_iff] at hhi'
              obtain ⟨h'', hh'', e⟩ := hhi'
              cases e
              split at hev
              · rename_i e1 e2
                obtain ⟨k1, c1⟩ := intOf_vr (opd_vr hf hh'') e1
                obtain ⟨k2, c2⟩ := intOf_vr (opd_vr hf hm') e2
                have := sim_subSl3 (k1 := k1) (k2 := k2) h ht hsz h1 (bndR_of hf hlo' el) hev
                simpa only [execOp, Option.map_some, c1, c2] using this
              · cases hev
          · cases hev
      · cases hc
    · cases hc
  case fieldAddr t x f =>
    split at hc
    · rename_i fs ht
      simp only [Option.bind_eq_bind, Option.bind_eq_some_iff] at hc
      obtain ⟨fd, hfd, n, hn, hc⟩ := hc
      split at hc
      · rename_i h0
        simp only [Option.pure_def, Option.bind_eq_some_iff] at hc
        obtain ⟨x', hx', e⟩ := hc
        cases e
        simp only [evOp] at hev
        exact sim_fieldAddr h ht hfd hn h0 (opd_vr hf hx') hev
      · cases hc
    · cases hc
  case field t x f =>
    split at hc
    · rename_i fs ht
      simp only [Option.bind_eq_bind, Option.bind_eq_some_iff, Option.pure_def] at hc
      obtain ⟨fd, hfd, ⟨agg, n⟩, hs, x', hx', e⟩ := hc
      cases e
      simp only [evOp] at hev
      split at hev
      · rename_i cs e1
        split at hev
        · rename_i hl
          rw [Option.map_eq_some_iff] at hev
          obtain ⟨u, hu, e⟩ := hev
          cases e
          have h1 := opd_vr hf hx'
          rw [e1] at h1
          exact sim_field h ht hfd hs h1 hl hu
        · cases hev
      · cases hev
    · cases hc
  case indexAddr t x i =>
    simp only [Option.bind_eq_bind, Option.bind_eq_some_iff] at hc
    obtain ⟨e, he, sz, hsz, hc⟩ := hc
    have ht : P.underlying t = some (.slice e) := by
      unfold elemT at he
      split at he
      · cases he; assumption
      · cases he
    split at hc
    · simp only [Option.pure_def, Option.bind_eq_some_iff] at hc
      obtain ⟨x', hx', i', hi', e⟩ := hc
      cases e
      have h1 := opd_vr hf hx'
      have h2 := opd_vr hf hi'
      simp only [evOp] at hev
      split at hev
      · rename_i id g off len sz' k n e1 e2
        rw [e1] at h1
        rw [e2] at h2
        have := sim_indexAddr (k := k) (n := n) h ht hsz h1 hev
        simpa only [execOp, vr_s h2] using this
      · rename_i es sz' k n e1 e2
        rw [e1] at h1
        rw [e2] at h2
        have := sim_indexAddr (k := k) (n := n) h ht hsz h1 hev
        simpa only [execOp, vr_s h2] using this
      · cases hev
    · cases hc
  case index t x i =>
    split at hc
    · rename_i ht
      simp only [Option.bind_eq_bind, Option.bind_eq_some_iff, Option.pure_def] at hc
      obtain ⟨x', hx', i', hi', e⟩ := hc
      cases e
      have h1 := opd_vr hf hx'
      have h2 := opd_vr hf hi'
      simp only [evOp] at hev
      split at hev
      · rename_i b k n e1 e2
        rw [e1] at h1
        rw [e2] at h2
        split at hev
        · rename_i h0
          split at hev
          · rename_i c hcc
            cases hev
            have := run_indexStr (P := P) (w := w) (k := k) ht h0 hcc
            exact OpRes.still h (.s _) (by simpa only [execOp, vr_s h1, vr_s h2] using this)
          · cases hev
        · cases hev
      · cases hev
    · cases hc
  case extract x i =>
    rw [Option.map_eq_some_iff] at hc; obtain ⟨y, hy, rfl⟩ := hc
    have hv := opd_vr hf hy
    simp only [evOp] at hev
    split at hev
    · rename_i vs e1
      rw [e1] at hv
      split at hev
      · rename_i u hu
        cases hev
        obtain ⟨cs, ec, hcs⟩ := vr_tup hv
        obtain ⟨b, hb, hvb⟩ := hcs.get hu
        have hb' : cs[i]? = some b := by simpa using hb
        exact OpRes.still h hvb (by simp [execOp, ec, Instr.extract, hb'])
      · cases hev
    · cases hev
  case call c =>
    obtain ⟨callee, args, argTypes⟩ := c
    cases callee <;> simp only at hc
    case value f =>
      simp only [Option.bind_eq_bind, Option.bind_eq_some_iff] at hc
      obtain ⟨xs, hxs, hc⟩ := hc
      split at hc
      · split at hc
        · cases hc; simp [AOp.isCall] at hnc
        · simp only [Option.pure_def, Option.bind_eq_some_iff] at hc
          obtain ⟨y, hy, e⟩ := hc
          cases e; simp [AOp.isCall] at hnc
      · simp only [Option.pure_def, Option.bind_eq_some_iff] at hc
        obtain ⟨y, hy, e⟩ := hc
        cases e; simp [AOp.isCall] at hnc
    case invoke => cases hc
    case builtin b =>
      have hexec : ∀ b, execOp a.eval ⟨dst, .call { callee := .builtin b, args, argTypes }, type, pos, after, guard⟩ = builtin b argTypes type (args.map fun | .const _ => true | _ => false) (args.map a.eval) := fun _ => rfl
      rw [hexec]
      split at hc
      · rename_i x t ha hat
        have hargs : args.map a.eval = #[a.eval x] := by
          apply Array.ext'; simp [ha]
        have hat0 : argTypes[0]? = some t := by
          have : argTypes.toList[0]? = some t := by rw [hat]; rfl
          simpa using this
        rw [hargs]
        have len1 : ∀ (d : TypeDesc) (c : Value) (n : Int), P.underlying t = some d → a.eval x = c → (Builtin.len_ argTypes type #[c]).run P w = .ok (goInt n) w →
            OpRes CC μ Mt w H ((builtin .len argTypes type (args.map fun | .const _ => true | _ => false) #[a.eval x]).run P w) (i64 n) H := by
          intro d c n _ hcx hr
          refine OpRes.still h (c := .int .i64 n) (.s _) ?_
          rw [hcx]
          show ((do pure (.value (← Builtin.len_ argTypes type #[c])) : Sem Next).run P w) = _
          simp only [Sem.run_bind, hr, Result.andThen_ok, Sem.run_pure]; rfl
        split at hc
        · rename_i ht
          rw [Option.map_eq_some_iff] at hc; obtain ⟨x', hx', rfl⟩ := hc
          have hv := opd_vr hf hx'
          simp only [evOp] at hev
          split at hev <;> try cases hev
          all_goals rename_i e1 e2; try cases e1
          all_goals
            rw [e2] at hv
            exact len1 _ _ _ ht (vr_s hv) (by simp [Builtin.len_, hat0, run_underlying ht])
        · rename_i el ht
          rw [Option.map_eq_some_iff] at hc; obtain ⟨x', hx', rfl⟩ := hc
          have hv := opd_vr hf hx'
          simp only [evOp] at hev
          split at hev
          · rename_i e1 _; cases e1
          · rename_i e2; rw [e2] at hv; cases hev
            exact len1 _ _ _ ht (vr_s hv) (by simp [Builtin.len_, hat0, run_underlying ht])
          · rename_i e1 _; cases e1
          · rename_i e2; rw [e2] at hv; cases hev
            generalize hcv : a.eval x = c at hv
            cases hv with
            | esl ad => rw [← hcv]; exact len1 _ _ _ ht hcv (by simp [Builtin.len_, hat0, run_underlying ht])
          · rename_i es sz e2; rw [e2] at hv; cases hev
            generalize hcv : a.eval x = c at hv
            cases hv with
            | psl _ _ B o cap arr e fr hB hM hc hz hs hvv => rw [← hcv]; exact len1 _ _ _ ht hcv (by simp [Builtin.len_, hat0, run_underlying ht])
            | psl0 _ cap ad => rw [← hcv]; exact len1 _ _ _ ht hcv (by simp [Builtin.len_, hat0, run_underlying ht])
          · rename_i id g off len sz e2; rw [e2] at hv; cases hev
            generalize hcv : a.eval x = c at hv
            cases hv with
            | sl _ _ _ _ _ B b cap arr e hm hB hcap hs => rw [← hcv]; exact len1 _ _ _ ht hcv (by simp [Builtin.len_, hat0, run_underlying ht])
            | sl0 _ _ _ _ B b ad hm => rw [← hcv]; exact len1 _ _ _ ht hcv (by simp [Builtin.len_, hat0, run_underlying ht])
          · rename_i e1 _; cases e1
          · cases hev
        · rename_i k el ht
          rw [Option.map_eq_some_iff] at hc; obtain ⟨x', hx', rfl⟩ := hc
          have hv := opd_vr hf hx'
          simp only [evOp] at hev
          split at hev
          · rename_i e1 _; cases e1
          · rename_i e1 _; cases e1
          · rename_i e2; rw [e2] at hv; cases hev
            exact len1 _ _ _ ht (vr_s hv) (by simp [Builtin.len_, hat0, run_underlying ht])
          · rename_i e1 _; cases e1
          · rename_i e1 _; cases e1
          · rename_i e1 _; cases e1
          · rename_i id e2; rw [e2] at hv
            split at hev
            · rename_i es hH
              cases hev
              obtain ⟨B, hm, ec⟩ := vr_mp hv
              obtain ⟨arr, clock, hB, hR⟩ := h.mapAt hH hm
              have hl : es.length = arr.size := by simpa using hR.1
              exact len1 _ _ _ ht ec (by simp [Builtin.len_, hat0, run_underlying ht, run_getObj_map hB, hl])
            · cases hev
          · cases hev
        · cases hc
      · rename_i s x t t' ha hat
        have hargs : args.map a.eval = #[a.eval s, a.eval x] := by
          apply Array.ext'; simp [ha]
        have hat0 : argTypes[0]? = some t := by
          have : argTypes.toList[0]? = some t := by rw [hat]; rfl
          simpa using this
        have hat1 : argTypes[1]? = some t' := by
          have : argTypes.toList[1]? = some t' := by rw [hat]; rfl
          simpa using this
        rw [hargs]
        simp only [Option.bind_eq_bind, Option.bind_eq_some_iff] at hc
        obtain ⟨e, he, i, hi, z, hz, hc⟩ := hc
        have ht : P.underlying t = some (.slice e) := by
          unfold elemT at he
          split at he
          · cases he; assumption
          · cases he
        have fin : ((∃ e', P.underlying t' = some (.slice e')) ∨ P.underlying t' = some .string) → (if 0 < i.size ∧ 0 < i.bytes ∧ z.cells.length = i.size then (do return AOp.append i.size i.bytes (← compOpd s) (← compOpd x)) else none) = some aop →
            OpRes CC μ Mt w H ((builtin .append argTypes type (args.map fun | .const _ => true | _ => false) #[a.eval s, a.eval x]).run P w) v H' := by
          intro ht' hc
          split at hc
          · rename_i hcond
            simp only [Option.bind_eq_bind, Option.pure_def, Option.bind_eq_some_iff] at hc
            obtain ⟨s', hs', x', hx', e⟩ := hc
            cases e
            exact sim_append h hat0 hat1 ht ht' hi hz hcond.2.2 hcond.1 hcond.2.1 (opd_vr hf hs') (opd_vr hf hx') hev
          · cases hc
        split at hc
        · rename_i e' ht'; exact fin (.inl ⟨e', ht'⟩) hc
        · rename_i ht'; exact fin (.inr ht') hc
        · cases hc
      · rename_i m k t t' ha hat
        have hargs : args.map a.eval = #[a.eval m, a.eval k] := by
          apply Array.ext'; simp [ha]
        have hat0 : argTypes[0]? = some t := by
          have : argTypes.toList[0]? = some t := by rw [hat]; rfl
          simpa using this
        rw [hargs]
        split at hc
        · rename_i kt e ht
          simp only [Option.bind_eq_bind, Option.bind_eq_some_iff, Option.pure_def] at hc
          obtain ⟨kind, hk, m', hm', k', hk', e⟩ := hc
          cases e
          simp only [evOp] at hev
          split at hev
          · rename_i id key e1 e2
            split at hev
            · rename_i hcond
              split at hev
              · rename_i es hH
                have hmv := opd_vr hf hm'
                have hkv := opd_vr hf hk'
                rw [e1] at hmv
                rw [e2] at hkv
                rw [vr_s hkv]
                exact sim_delete h hat0 ht hk hmv hcond.2 hH hev
              · cases hev
            · cases hev
          · cases hev
        · cases hc
      · rename_i x t ha hat
        have hargs : args.map a.eval = #[a.eval x] := by
          apply Array.ext'; simp [ha]
        have hat0 : argTypes[0]? = some t := by
          have : argTypes.toList[0]? = some t := by rw [hat]; rfl
          simpa using this
        rw [hargs]
        simp only [Option.bind_eq_bind, Option.bind_eq_some_iff, Option.pure_def] at hc
        obtain ⟨e, he, sz, hsz, z, hz, hc⟩ := hc
        split at hc
        · rename_i hcond
          simp only [Option.bind_eq_some_iff] at hc
          obtain ⟨x', hx', e1⟩ := hc
          cases e1
          have ht : P.underlying t = some (.slice e) := by
            unfold elemT at he
            split at he
            · rename_i e2 h2; cases he; exact h2
            · cases he
          exact sim_clear h hat0 ht hz hcond.1 hcond.2 (base := base) hev (opd_vr hf hx')
        · cases hc
      · rename_i x y ha
        have hargs : args.map a.eval = #[a.eval x, a.eval y] := by
          apply Array.ext'; simp [ha]
        rw [hargs]
        simp only [Option.bind_eq_bind, Option.bind_eq_some_iff, Option.pure_def] at hc
        obtain ⟨x', hx', y', hy', e⟩ := hc
        cases e
        have h1 := opd_vr hf hx'
        have h2 := opd_vr hf hy'
        simp only [evOp] at hev
        split at hev
        · rename_i k p k' q e1 e2
          split at hev
          · rename_i hk
            cases hev
            rw [e1] at h1
            rw [e2] at h2
            rw [vr_s h1, vr_s h2]
            exact OpRes.still h (.s _) (by simp [builtin, Builtin.min_, Builtin.min2])
          · cases hev
        · cases hev
      · rename_i x y ha
        have hargs : args.map a.eval = #[a.eval x, a.eval y] := by
          apply Array.ext'; simp [ha]
        rw [hargs]
        simp only [Option.bind_eq_bind, Option.bind_eq_some_iff, Option.pure_def] at hc
        obtain ⟨x', hx', y', hy', e⟩ := hc
        cases e
        have h1 := opd_vr hf hx'
        have h2 := opd_vr hf hy'
        simp only [evOp] at hev
        split at hev
        · rename_i k p k' q e1 e2
          split at hev
          · rename_i hk
            cases hev
            rw [e1] at h1
            rw [e2] at h2
            rw [vr_s h1, vr_s h2]
            exact OpRes.still h (.s _) (by simp [builtin, Builtin.max_, Builtin.max2])
          · cases hev
        · cases hev
      · cases hc
  all_goals cases hc
end
end Go.AM
