/-
  The machine without a bound: what some bound gives.
-/
import Derived.Test.YtmnlagcmpgilaaaAm21
set_option linter.all false
namespace Go.AM

def Le (c c' : CallF) : Prop := ∀ v args base H r, c v args base H = some r → c' v args base H = some r

theorem evOp_le {c c' : CallF} (h : Le c c') {base : Nat} {fr : List V} {H : Heap} {op : AOp} {r : V × Heap} (he : evOp c base fr H op = some r) : evOp c' base fr H op = some r := by
  cases op
  case call f xs => exact h _ _ _ _ _ he
  case callR f xs => exact h _ _ _ _ _ he
  case callP f xs =>
    simp only [evOp] at he ⊢
    split at he
    · rename_i us hus
      split at he
      · rename_i v H' hc
        rw [h _ _ _ _ _ hc]
        exact he
      · cases he
    · cases he
  case callQ f xs =>
    simp only [evOp] at he ⊢
    split at he
    · rename_i hp
      rw [if_pos hp]
      split at he
      · rename_i v H' hc
        rw [h _ _ _ _ _ hc]
        exact he
      · cases he
    · cases he
  all_goals exact he

theorem evOps_le {c c' : CallF} (h : Le c c') {base : Nat} : ∀ (l : List AOper) {fr : List V} {H : Heap} {r : List V × Heap}, evOps c base l fr H = some r → evOps c' base l fr H = some r := by
  intro l
  induction l with
  | nil => intro fr H r he; exact he
  | cons o l ih =>
    intro fr H r he
    simp only [evOps] at he ⊢
    split at he
    · cases he
    · exact ih he
    · split at he
      · rename_i v H1 h1
        rw [evOp_le h h1]
        exact ih he
      · cases he

theorem iterN_le {b b' : List V → Heap → Option St} (hb : ∀ fr H r, b fr H = some r → b' fr H = some r) {kill : List Nat} {m : Nat} : ∀ {n n' : Nat}, n ≤ n' → ∀ {fr : List V} {H : Heap} {r : St}, iterN b kill m n fr H = some r → iterN b' kill m n' fr H = some r := by
  intro n
  induction n with
  | zero => intro n' _ fr H r h; simp [iterN] at h
  | succ n ih =>
    intro n' hn fr H r h
    obtain ⟨k, rfl⟩ : ∃ k, n' = k + 1 := ⟨n' - 1, by omega⟩
    simp only [iterN] at h ⊢
    split at h
    · rename_i fr1 H1 h1
      rw [hb _ _ _ h1]
      exact ih (by omega) h
    · rename_i e fr1 H1 hne h1
      rw [hb _ _ _ h1]
      split
      · rename_i e' ; cases e'; exact (hne rfl).elim
      · rename_i e'; cases e'; exact h
      · rename_i e'; cases e'
    · cases h

abbrev itN (n : Nat) : IterF := fun b k m => iterN b k m n

theorem evC_le {c c' : CallF} (h : Le c c') {n n' : Nat} (hn : n ≤ n') {base : Nat} : ∀ (ac : ACode) {fr : List V} {H : Heap} {r : St}, evC c (itN n) base ac fr H = some r → evC c' (itN n') base ac fr H = some r := by
  intro ac
  induction ac with
  | skip => intro fr H r he; exact he
  | regionE ops kill outs => intro fr H r he; exact he
  | region ops chk kill =>
    intro fr H r he
    simp only [evC] at he ⊢
    split at he
    · rename_i fr1 H1 h1
      rw [evOps_le h ops h1]
      exact he
    · cases he
  | seq a b iha ihb =>
    intro fr H r he
    simp only [evC] at he ⊢
    split at he
    · rename_i fr1 H1 h1
      rw [iha h1]
      exact ihb he
    · rename_i hne
      have := iha he
      rw [this]
      split
      · rename_i e; cases e; exact (hne _ _ he).elim
      · rfl
  | cond o a b iha ihb =>
    intro fr H r he
    simp only [evC] at he ⊢
    split at he
    · exact iha he
    · exact ihb he
    · cases he
  | block id a ih =>
    intro fr H r he
    simp only [evC] at he ⊢
    split at he
    · rename_i id' fr1 H1 h1
      rw [ih h1]
      exact he
    · rename_i hne
      rw [ih he]
      split
      · rename_i e; cases e; exact (hne _ _ _ he).elim
      · rfl
  | loop kill a ih =>
    intro fr H r he
    simp only [evC] at he ⊢
    exact iterN_le (fun fr H r => ih) hn he
  | rangeFunc f ps a b _ _ =>
    intro fr H r he
    simp only [evC] at he ⊢
    split at he
    · split at he
      · rename_i v H2 hc
        rw [h _ _ _ _ _ hc]
        exact he
      · cases he
    · cases he
  | exit id => intro fr H r he; exact he
  | ret => intro fr H r he; exact he

theorem evCall_le {CP : Nat → Option CFun} {c c' : CallF} (h : Le c c') {n n' : Nat} (hn : n ≤ n') : Le (evCall CP c (itN n)) (evCall CP c' (itN n')) := by
  intro v args base H r he
  cases v <;> simp only [evCall] at he ⊢ <;> first | (cases he; done) | skip
  case fn f x y =>
    split at he
    · rename_i cf hcf
      split at he
      · rename_i fr1 H1 h1; rw [evC_le h hn _ h1]; exact he
      · rename_i fr1 H1 h1; rw [evC_le h hn _ h1]; exact he
      · cases he
    · exact he
    · cases he
  case yld id =>
    split at he
    case isFalse => cases he
    rename_i hb
    rw [if_pos hb]
    split at he
    case h_2 => cases he
    split at he
    case h_2 => cases he
    split at he
    case h_2 => cases he
    rename_i h1
    rw [evC_le h hn _ h1]
    simp only []
    split at he
    case h_2 => cases he
    split at he
    case h_2 => cases he
    rename_i h2
    rw [evC_le h hn _ h2]
    exact he

theorem callN_step {CP : Nat → Option CFun} : ∀ n, Le (callN CP n) (callN CP (n + 1))
  | 0 => fun _ _ _ _ _ h => by cases h
  | n + 1 => evCall_le (callN_step n) (Nat.le_succ n)

theorem callN_le {CP : Nat → Option CFun} {n m : Nat} (h : n ≤ m) : Le (callN CP n) (callN CP m) := by
  induction m with
  | zero => have : n = 0 := by omega
            subst this; exact fun _ _ _ _ _ h => h
  | succ m ih =>
    by_cases hn : n = m + 1
    · subst hn; exact fun _ _ _ _ _ h => h
    · exact fun v a b H r hr => callN_step m v a b H r (ih (by omega) v a b H r hr)

/-! ### Without a bound -/
open Classical in
noncomputable def callW (CP : Nat → Option CFun) : CallF := fun v args base H => if h : ∃ r n, callN CP n v args base H = some r then some h.choose else none

open Classical in
noncomputable def itW : IterF := fun b k m fr H => if h : ∃ r n, iterN b k m n fr H = some r then some h.choose else none

variable {CP : Nat → Option CFun}

theorem callW_of {n : Nat} {v : V} {args : List V} {base : Nat} {H : Heap} {r : V × Heap} (h : callN CP n v args base H = some r) : callW CP v args base H = some r := by
  have hx : ∃ r n, callN CP n v args base H = some r := ⟨r, n, h⟩
  unfold callW
  rw [dif_pos hx]
  obtain ⟨m, hm⟩ := hx.choose_spec
  have h1 := callN_le (Nat.le_max_left n m) _ _ _ _ _ h
  have h2 := callN_le (Nat.le_max_right n m) _ _ _ _ _ hm
  rw [h1] at h2
  exact h2.symm

theorem callW_ex {v : V} {args : List V} {base : Nat} {H : Heap} {r : V × Heap} (h : callW CP v args base H = some r) : ∃ n, callN CP n v args base H = some r := by
  unfold callW at h
  split at h
  · rename_i hx
    obtain ⟨m, hm⟩ := hx.choose_spec
    exact ⟨m, hm.trans h⟩
  · cases h

theorem itW_of {b : List V → Heap → Option St} {k : List Nat} {m n : Nat} {fr : List V} {H : Heap} {r : St} (h : iterN b k m n fr H = some r) : itW b k m fr H = some r := by
  have hx : ∃ r n, iterN b k m n fr H = some r := ⟨r, n, h⟩
  unfold itW
  rw [dif_pos hx]
  obtain ⟨j, hj⟩ := hx.choose_spec
  have h1 := iterN_le (fun _ _ _ h => h) (Nat.le_max_left n j) h
  have h2 := iterN_le (fun _ _ _ h => h) (Nat.le_max_right n j) hj
  rw [h1] at h2
  exact h2.symm

theorem itW_ex {b : List V → Heap → Option St} {k : List Nat} {m : Nat} {fr : List V} {H : Heap} {r : St} (h : itW b k m fr H = some r) : ∃ n, iterN b k m n fr H = some r := by
  unfold itW at h
  split at h
  · rename_i hx
    obtain ⟨j, hj⟩ := hx.choose_spec
    exact ⟨j, hj.trans h⟩
  · cases h

/-! ### What goes through without a bound goes through at some bound -/

theorem evOp_cont {base : Nat} {fr : List V} {H : Heap} {op : AOp} {r : V × Heap} (he : evOp (callW CP) base fr H op = some r) : ∃ n, evOp (callN CP n) base fr H op = some r := by
  cases op
  case call f xs => exact callW_ex he
  case callR f xs => exact callW_ex he
  case callP f xs =>
    simp only [evOp] at he
    split at he
    · rename_i us hus
      split at he
      · rename_i v H' hc
        obtain ⟨n, hn⟩ := callW_ex hc
        refine ⟨n, ?_⟩
        simp only [evOp, hus, hn]
        exact he
      · cases he
    · cases he
  case callQ f xs =>
    simp only [evOp] at he
    split at he
    · rename_i hp
      split at he
      · rename_i v H' hc
        obtain ⟨n, hn⟩ := callW_ex hc
        refine ⟨n, ?_⟩
        simp only [evOp, if_pos hp, hn]
        exact he
      · cases he
    · cases he
  all_goals exact ⟨0, he⟩

theorem evOps_cont {base : Nat} : ∀ (l : List AOper) {fr : List V} {H : Heap} {r : List V × Heap}, evOps (callW CP) base l fr H = some r → ∃ n, evOps (callN CP n) base l fr H = some r := by
  intro l
  induction l with
  | nil => intro fr H r he; exact ⟨0, he⟩
  | cons o l ih =>
    intro fr H r he
    simp only [evOps] at he
    split at he
    · cases he
    · rename_i hw
      obtain ⟨n, hn⟩ := ih he
      exact ⟨n, by simp only [evOps, hw, hn]⟩
    · rename_i hw
      split at he
      · rename_i v H1 h1
        obtain ⟨n1, hn1⟩ := evOp_cont h1
        obtain ⟨n2, hn2⟩ := ih he
        refine ⟨max n1 n2, ?_⟩
        simp only [evOps, hw, evOp_le (callN_le (Nat.le_max_left n1 n2)) hn1]
        exact evOps_le (callN_le (Nat.le_max_right n1 n2)) l hn2
      · cases he

theorem iterN_cont {bW : List V → Heap → Option St} {b : Nat → List V → Heap → Option St} (hmono : ∀ n m, n ≤ m → ∀ fr H r, b n fr H = some r → b m fr H = some r) (hb : ∀ fr H r, bW fr H = some r → ∃ n, b n fr H = some r) {kill : List Nat} {m : Nat} :
    ∀ (k : Nat) {fr : List V} {H : Heap} {r : St}, iterN bW kill m k fr H = some r → ∃ n, iterN (b n) kill m k fr H = some r := by
  intro k
  induction k with
  | zero => intro fr H r h; simp [iterN] at h
  | succ k ih =>
    intro fr H r h
    simp only [iterN] at h
    split at h
    · rename_i fr1 H1 h1
      obtain ⟨n1, hn1⟩ := hb _ _ _ h1
      obtain ⟨n2, hn2⟩ := ih h
      refine ⟨max n1 n2, ?_⟩
      simp only [iterN, hmono _ _ (Nat.le_max_left n1 n2) _ _ _ hn1]
      exact iterN_le (hmono _ _ (Nat.le_max_right n1 n2)) (Nat.le_refl _) hn2
    · rename_i e fr1 H1 hne h1
      obtain ⟨n1, hn1⟩ := hb _ _ _ h1
      refine ⟨n1, ?_⟩
      simp only [iterN, hn1]
      cases e with
      | nrm => exact (hne rfl).elim
      | ext id => exact h
      | ret => exact h
    · cases h

abbrev evN (CP : Nat → Option CFun) (base : Nat) (ac : ACode) (n : Nat) : List V → Heap → Option St := evC (callN CP n) (itN n) base ac

theorem evN_le {base : Nat} {ac : ACode} {n m : Nat} (h : n ≤ m) {fr : List V} {H : Heap} {r : St} (he : evN CP base ac n fr H = some r) : evN CP base ac m fr H = some r := evC_le (callN_le h) h ac he

theorem evC_cont {base : Nat} : ∀ (ac : ACode) {fr : List V} {H : Heap} {r : St}, evC (callW CP) itW base ac fr H = some r → ∃ n, evN CP base ac n fr H = some r := by
  intro ac
  induction ac with
  | skip => intro fr H r he; exact ⟨0, he⟩
  | regionE ops kill outs => intro fr H r he; exact ⟨0, he⟩
  | region ops chk kill =>
    intro fr H r he
    simp only [evC] at he
    split at he
    · rename_i fr1 H1 h1
      obtain ⟨n, hn⟩ := evOps_cont ops h1
      exact ⟨n, by simp only [evN, evC, hn]; exact he⟩
    · cases he
  | seq a b iha ihb =>
    intro fr H r he
    simp only [evC] at he
    split at he
    · rename_i fr1 H1 h1
      obtain ⟨n1, hn1⟩ := iha h1
      obtain ⟨n2, hn2⟩ := ihb he
      refine ⟨max n1 n2, ?_⟩
      have k1 := evN_le (Nat.le_max_left n1 n2) hn1
      have k2 := evN_le (Nat.le_max_right n1 n2) hn2
      simp only [evN, evC] at k1 ⊢
      rw [k1]
      exact k2
    · rename_i hne
      obtain ⟨n, hn⟩ := iha he
      refine ⟨n, ?_⟩
      simp only [evN, evC] at hn ⊢
      rw [hn]
      split
      · rename_i e; cases e; exact (hne _ _ he).elim
      · rfl
  | cond o a b iha ihb =>
    intro fr H r he
    simp only [evC] at he
    split at he
    · rename_i hc
      obtain ⟨n, hn⟩ := iha he
      exact ⟨n, by simp only [evN, evC, hc]; exact hn⟩
    · rename_i hc
      obtain ⟨n, hn⟩ := ihb he
      exact ⟨n, by simp only [evN, evC, hc]; exact hn⟩
    · cases he
  | block id a ih =>
    intro fr H r he
    simp only [evC] at he
    split at he
    · rename_i id' fr1 H1 h1
      obtain ⟨n, hn⟩ := ih h1
      exact ⟨n, by simp only [evN, evC] at hn ⊢; rw [hn]; exact he⟩
    · rename_i hne
      obtain ⟨n, hn⟩ := ih he
      refine ⟨n, ?_⟩
      simp only [evN, evC] at hn ⊢
      rw [hn]
      split
      · rename_i e; cases e; exact (hne _ _ _ he).elim
      · rfl
  | loop kill a ih =>
    intro fr H r he
    simp only [evC] at he
    obtain ⟨k, hk⟩ := itW_ex he
    obtain ⟨n, hn⟩ := iterN_cont (b := evN CP base a) (fun n m h fr H r => evN_le h) (fun fr H r => ih) k hk
    refine ⟨max n k, ?_⟩
    simp only [evN, evC]
    exact iterN_le (fun fr H r h => evN_le (Nat.le_max_left n k) h) (Nat.le_max_right n k) hn
  | rangeFunc f ps a b _ _ =>
    intro fr H r he
    simp only [evC] at he
    split at he
    · rename_i k x y hf
      split at he
      · rename_i v H2 hc
        obtain ⟨n, hn⟩ := callW_ex hc
        refine ⟨n, ?_⟩
        simp only [evN, evC, hf, hn]
        exact he
      · cases he
    · cases he
  | exit id => intro fr H r he; exact ⟨0, he⟩
  | ret => intro fr H r he; exact ⟨0, he⟩

theorem evCall_cont {v : V} {args : List V} {base : Nat} {H : Heap} {r : V × Heap} (he : evCall CP (callW CP) itW v args base H = some r) : ∃ n, evCall CP (callN CP n) (itN n) v args base H = some r := by
  cases v <;> simp only [evCall] at he ⊢ <;> first | (cases he; done) | skip
  case fn f x y =>
    split at he
    · rename_i cf hcf
      split at he
      · rename_i fr1 H1 h1
        obtain ⟨n, hn⟩ := evC_cont _ h1
        refine ⟨n, ?_⟩
        simp only [evN] at hn
        simp only [hn]; exact he
      · rename_i fr1 H1 h1
        obtain ⟨n, hn⟩ := evC_cont _ h1
        refine ⟨n, ?_⟩
        simp only [evN] at hn
        simp only [hn]; exact he
      · cases he
    · rename_i g hg
      exact ⟨0, he⟩
    · cases he
  case yld id =>
    split at he
    case isFalse => cases he
    rename_i hb
    split at he
    case h_2 => cases he
    rename_i hH
    split at he
    case h_2 => cases he
    rename_i hset
    split at he
    case h_2 => cases he
    rename_i h1
    split at he
    case h_2 => cases he
    rename_i hH1
    split at he
    case h_2 => cases he
    rename_i h2
    obtain ⟨n1, hn1⟩ := evC_cont _ h1
    obtain ⟨n2, hn2⟩ := evC_cont _ h2
    have k1 := evN_le (Nat.le_max_left n1 n2) hn1
    have k2 := evN_le (Nat.le_max_right n1 n2) hn2
    refine ⟨max n1 n2, ?_⟩
    simp only [evN] at k1 k2
    simp only [hb, if_true, hset, k1, hH1, k2]
    exact he

/-- **A CALL, OPENED.** -/
theorem callW_eq {v : V} {args : List V} {base : Nat} {H : Heap} {r : V × Heap} (he : evCall CP (callW CP) itW v args base H = some r) : callW CP v args base H = some r := by
  obtain ⟨n, hn⟩ := evCall_cont he
  exact callW_of (n := n + 1) hn

/-- **A ROUND, AND THE REST.** -/
theorem itW_go {b : List V → Heap → Option St} {k : List Nat} {m : Nat} {fr fr' : List V} {H H' : Heap} {r : St} (h1 : b fr H = some (.nrm, fr', H')) (h2 : itW b k m (killS k fr') (trim m (killS k fr') H') = some r) : itW b k m fr H = some r := by
  obtain ⟨n, hn⟩ := itW_ex h2
  refine itW_of (n := n + 1) ?_
  simp only [iterN, h1]
  exact hn

/-- **THE LAST ROUND.** -/
theorem itW_stop {b : List V → Heap → Option St} {k : List Nat} {m : Nat} {fr fr' : List V} {H H' : Heap} {e : Ex} (hne : e ≠ .nrm) (h1 : b fr H = some (e, fr', H')) : itW b k m fr H = some (e, killS k fr', trim m (killS k fr') H') := by
  refine itW_of (n := 1) ?_
  simp only [iterN, h1]
end Go.AM
