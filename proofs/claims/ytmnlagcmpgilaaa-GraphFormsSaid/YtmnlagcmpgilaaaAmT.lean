/-
  A row's tale, told short: what must go through and goes through by what else is asked is told by its place alone.
-/
import Derived.Test.YtmnlagcmpgilaaaAmS
set_option linter.all false
namespace Go.AM

inductive RI where
  | keep (g : List (Nat × Bool × E)) (e : E)
  | sub (src : Nat) (path slots : List Nat)
  | tt (i : Nat)
  | cc (v : V)
  deriving Inhabited

/-- What stands at a place within an expression, and under which conditions it is reckoned. -/
def subAt : List Nat → List Nat → E → List (Nat × Bool × E) × E
  | [], _, e => ([], e)
  | i :: p, ss, .op _ xs => subAt p ss (xs.getD i (.c .unk))
  | 0 :: p, ss, .pick c _ _ => subAt p ss c
  | 1 :: p, s :: ss, .pick c a _ => ((s, true, c) :: (subAt p ss a).1, (subAt p ss a).2)
  | 2 :: p, s :: ss, .pick c _ b => ((s, false, c) :: (subAt p ss b).1, (subAt p ss b).2)
  | _, _, _ => ([], .c .unk)

def kepts : List RI → List (List (Nat × Bool × E) × E)
  | [] => []
  | .keep g e :: r => (g, e) :: kepts r
  | _ :: r => kepts r

def frees : List RI → List E
  | [] => []
  | .keep [] e :: r => e :: frees r
  | _ :: r => frees r

def RI.get (S : List E) : RI → List (Nat × Bool × E) × E
  | .keep g e => (g, e)
  | .sub s p ss => subAt p ss (S.getD s (.c .unk))
  | .tt i => ([], .t i)
  | .cc v => ([], .c v)

def expand (items : List RI) (os : List (Nat × E)) : List (List (Nat × Bool × E) × E) := items.map (RI.get (os.map (·.2) ++ frees items))

theorem evEs_get {fr : List V} {H : Heap} : ∀ {xs : List E} {i : Nat}, (evEs fr H xs).isSome = true → (evE fr H (xs.getD i (.c .unk))).isSome = true := by
  intro xs
  induction xs with
  | nil => intro i _; simp [evE]
  | cons x xs ih =>
    intro i h
    simp only [evEs] at h
    cases hx : evE fr H x with
    | none => simp [hx] at h
    | some v =>
      cases hs : evEs fr H xs with
      | none => simp [hx, hs] at h
      | some vs =>
        cases i with
        | zero => simp [hx]
        | succ i => simpa using ih (i := i) (by rw [hs]; rfl)

theorem subAt_some {fr : List V} {H : Heap} : ∀ (p ss : List Nat) (e : E), (evE fr H e).isSome = true → reqE fr H (subAt p ss e).1 (subAt p ss e).2 = true := by
  intro p
  induction p with
  | nil => intro ss e h; simp only [subAt, reqE]; exact h
  | cons i p ih =>
    intro ss e h
    cases e with
    | op o xs =>
      simp only [subAt]
      refine ih _ _ (evEs_get ?_)
      simp only [evE] at h
      cases hs : evEs fr H xs with
      | none => simp [hs] at h
      | some vs => rfl
    | pick c a b =>
      simp only [evE] at h
      cases hc : evE fr H c with
      | none => simp [hc, pickO] at h
      | some v =>
        rw [hc] at h
        match i, ss with
        | 0, ss => simp only [subAt]; exact ih _ _ (by rw [hc]; rfl)
        | 1, [] => simp only [subAt, reqE, evE]; rfl
        | 2, [] => simp only [subAt, reqE, evE]; rfl
        | 1, s :: ss =>
          simp only [subAt, reqE, hc]
          unfold pickO at h
          split at h
          · rename_i e; cases e; simp only [reqB, if_true]; exact ih _ _ h
          · rename_i e; cases e; simp [reqB]
          · cases h
        | 2, s :: ss =>
          simp only [subAt, reqE, hc]
          unfold pickO at h
          split at h
          · rename_i e; cases e; simp [reqB]
          · rename_i e; cases e; simp only [reqB, if_true]; exact ih _ _ h
          · cases h
        | i + 3, ss => simp only [subAt, reqE, evE]; rfl
    | t j => simp only [subAt, reqE, evE]; rfl
    | c v => simp only [subAt, reqE, evE]; rfl

theorem setOuts_some {fr : List V} {H : Heap} : ∀ {os : List (Nat × E)} {f g : List V}, setOuts fr H os f = some g → ∀ p ∈ os, (evE fr H p.2).isSome = true := by
  intro os
  induction os with
  | nil => intro f g _ p hp; cases hp
  | cons q os ih =>
    intro f g h p hp
    simp only [setOuts] at h
    cases hq : evE fr H q.2 with
    | none => simp [hq] at h
    | some v =>
      simp only [hq] at h
      rcases List.mem_cons.1 hp with rfl | hp
      · rw [hq]; rfl
      · exact ih h p hp

theorem kepts_mem : ∀ {items : List RI} {g : List (Nat × Bool × E)} {e : E}, RI.keep g e ∈ items → (g, e) ∈ kepts items := by
  intro items
  induction items with
  | nil => intro g e h; cases h
  | cons x r ih =>
    intro g e h
    rcases List.mem_cons.1 h with h2 | h2
    · subst h2; simp [kepts]
    · have h3 := ih h2
      clear h
      cases x <;> simp only [kepts] <;> first | exact List.mem_cons_of_mem _ h3 | exact h3
theorem mem_kepts : ∀ {items : List RI} {g : List (Nat × Bool × E)} {e : E}, (g, e) ∈ kepts items → RI.keep g e ∈ items := by
  intro items
  induction items with
  | nil => intro g e h; cases h
  | cons x r ih =>
    intro g e h
    cases x with
    | keep g' e' =>
      simp only [kepts] at h
      rcases List.mem_cons.1 h with h | h
      · cases h; exact List.mem_cons_self
      · exact List.mem_cons_of_mem _ (ih h)
    | _ => exact List.mem_cons_of_mem _ (ih h)
theorem frees_mem : ∀ {items : List RI} {e : E}, e ∈ frees items → ([], e) ∈ kepts items := by
  intro items
  induction items with
  | nil => intro e h; cases h
  | cons x r ih =>
    intro e h
    cases x with
    | keep g e' =>
      cases g with
      | nil =>
        simp only [frees] at h
        simp only [kepts]
        rcases List.mem_cons.1 h with rfl | h
        · exact List.mem_cons_self
        · exact List.mem_cons_of_mem _ (ih h)
      | cons a g => simp only [frees] at h; simp only [kepts]; exact List.mem_cons_of_mem _ (ih h)
    | _ => exact ih h

/-- **A TALE, TOLD SHORT.** -/
theorem evTale_short (m : Nat) (items : List RI) (os : List (Nat × E)) (kill : List Nat) (fr : List V) (H : Heap) :
    evTale (some (m, expand items os, os)) kill fr H = evTale (some (m, kepts items, os)) kill fr H := by
  simp only [evTale]
  by_cases hm : m ≤ fr.length
  · rw [if_pos hm, if_pos hm]
    by_cases hk : (kepts items).all (fun r => reqE fr H r.1 r.2) = true
    · rw [if_pos hk]
      cases hs : setOuts fr H os (killS kill fr) with
      | none => split <;> rfl
      | some g =>
        rw [if_pos]
        rw [List.all_eq_true]
        intro r hr
        unfold expand at hr
        rw [List.mem_map] at hr
        obtain ⟨x, hx, rfl⟩ := hr
        cases x with
        | keep gg e =>
          rw [List.all_eq_true] at hk
          exact hk _ (kepts_mem hx)
        | tt i => rfl
        | cc v => rfl
        | sub s p ss =>
          simp only [RI.get]
          by_cases hl : s < (os.map (·.2) ++ frees items).length
          · have hd : (os.map (·.2) ++ frees items).getD s (.c .unk) = (os.map (·.2) ++ frees items)[s] := by simp only [List.getD, List.getElem?_eq_getElem hl]; rfl
            rw [hd]
            rcases List.mem_append.1 (List.getElem_mem hl) with h1 | h1
            · rw [List.mem_map] at h1
              obtain ⟨q, hq, e⟩ := h1
              rw [← e]
              exact subAt_some p ss _ (setOuts_some hs q hq)
            · rw [List.all_eq_true] at hk
              have h5 := hk _ (frees_mem h1)
              exact subAt_some p ss _ (by simpa [reqE] using h5)
          · have hd : (os.map (·.2) ++ frees items).getD s (.c .unk) = .c .unk := by rw [List.getD, List.getElem?_eq_none (Nat.le_of_not_lt hl)]; rfl
            rw [hd]
            exact subAt_some (fr := fr) (H := H) p ss _ rfl
    · rw [if_neg hk, if_neg]
      intro h
      apply hk
      rw [List.all_eq_true] at h ⊢
      intro r hr
      obtain ⟨g, e⟩ := r
      exact h _ (List.mem_map.2 ⟨_, mem_kepts hr, rfl⟩)
  · rw [if_neg hm, if_neg hm]

theorem tale_row {ops : List AOper} {kill outs : List Nat} {m : Nat} {items : List RI} {os : List (Nat × E)} (h : symAll ops kill outs = some (m, expand items os, os)) (fr : List V) (H : Heap) :
    evTale (symAll ops kill outs) kill fr H = evTale (some (m, kepts items, os)) kill fr H := by rw [h, evTale_short]
end Go.AM
