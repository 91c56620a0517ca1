/-
  append; all operations without calls in one.
-/
import Derived.Test.YtmnlagcmpgilaaaAm9
set_option linter.all false
namespace Go.AM
open Go.RowKit
section
variable {CC : Code → ACode → Prop} {μ μ' : Mu} {Mt Mt' : Nat → Prop} {w w' : World} {H H' : Heap} {P : Program}

theorem HR.next (h : HR CC μ Mt w H) {id g : Nat} {c : List V} (hc : getC H id g = some c) : μ id (g + 1) = none := by
  cases e : μ id (g + 1) with
  | none => rfl
  | some p => have := h.gens _ _ _ _ _ e (getC_some hc); omega

theorem sim_append (h : HR CC μ Mt w H) {ts : Array TypeId} {ty t t' e : TypeId} {i : TypeInfo} {base : Nat} {s x v : V} {cs c : Value}
    (h0 : ts[0]? = some t) (h1 : ts[1]? = some t') (ht : P.underlying t = some (.slice e)) (ht' : (∃ e', P.underlying t' = some (.slice e')) ∨ P.underlying t' = some .string) (hi : P.info? e = some i)
    {z : V} (hz : zeroT P e = some z) (hzl : z.cells.length = i.size) (hsz : 0 < i.size) (hb : 0 < i.bytes) (hs : VR μ Mt w s cs) (hx : VR μ Mt w x c) (hev : appendV H base i.size i.bytes s x = some (v, H')) :
    OpRes CC μ Mt w H ((do pure (.value (← Builtin.append_ ts ty #[cs, c])) : Sem Next).run P w) v H' := by
  obtain ⟨zv, z1, z2, i', hi', hzv⟩ := zeroT_run (w := w) hz
  rw [hi] at hi'
  cases hi'
  have hzc := vr_cells (μ := μ) (Mt := Mt) (w := w) (ofConst_vr z2) (ofConst_one z2)
  have hzi : zv.cells.size = i.size := by rw [← hzl, hzc.1]; simp
  unfold appendV at hev
  split at hev
  · simp at hev
  rename_i m xs he
  obtain ⟨hxl, vs, hvs, hrun⟩ := elems_sim (P := P) h hsz hx he
  obtain ⟨hl0, hf0⟩ := hrun w rfl
  obtain ⟨hl1, hf1⟩ := hrun w.drew rfl
  have hvl : vs.length = m * i.size := by rw [← hvs.1, hxl]
  split at hev
  case isFalse => simp at hev
  rename_i hone
  -- nothing is appended
  have stay : ∀ (a : Option Addr) (len cap : Nat), m = 0 → len ≤ cap → ((do pure (.value (← Builtin.append_ ts ty #[.slice a len cap, c])) : Sem Next).run P w) = .ok (.value (.slice a len cap)) w := by
    intro a len cap hm hc
    subst hm
    have hvn : vs = [] := List.eq_nil_of_length_eq_zero (by simpa using hvl)
    subst hvn
    have := run_room (P := P) (w := w) (w' := w) (base := a) (sLen := len) (sCap := cap) (ty := ty) h0 h1 ht ht' hi hl0 hf0 (by omega) (fun _ _ => rfl) (fun _ => rfl)
    simp [this]
  -- a new row
  have fresh : ∀ (a : Option Addr), (a = none ∨ ∃ b, a = some b) → m ≠ 0 → m * i.bytes ≤ 2 ^ 47 →
      ((do pure (.value (← Builtin.append_ ts ty #[.slice a 0 0, c])) : Sem Next).run P w) = .ok (.value (.slice (some ⟨w.heap.size, 0, none⟩) m (grownCap w m 0 e))) (w.drew.alloc (.cells (vs.toArray ++ Builtin.zeroCells zv.cells (grownCap w m 0 e - m)) e)) ∧ m ≤ grownCap w m 0 e := by
    intro a _ hm hbb
    have hold : (Builtin.firstCells i.size 0 (.slice a 0 0)).run P w.drew = .ok #[] w.drew := by
      cases a <;> simp [Builtin.firstCells, loadCells, loadCellsFrom]
    have := run_grow (P := P) (w := w) (base := a) (sLen := 0) (sCap := 0) (ty := ty) h0 h1 ht ht' hi hzv hb hl0 hold hf1 (by omega) (by rw [Nat.zero_add]; exact hbb)
    rw [Nat.zero_add] at this
    refine ⟨?_, grownCap_ge w m 0 e⟩
    simp [this]
  have newRes : ∀ (a : Option Addr), (a = none ∨ ∃ b, a = some b) → m ≠ 0 → m * i.bytes ≤ 2 ^ 47 → cs = .slice a 0 0 →
      OpRes CC μ Mt w H ((do pure (.value (← Builtin.append_ ts ty #[cs, c])) : Sem Next).run P w) (.sl H.length 0 0 m i.size) (H ++ [.cells 0 xs]) := by
    intro a ha hm hbb hcs
    obtain ⟨hr, hge⟩ := fresh a ha hm hbb
    rw [hcs]
    have hzs : (Builtin.zeroCells zv.cells (grownCap w m 0 e - m)).size = (grownCap w m 0 e - m) * zv.cells.size := size_zeroCells _ _
    have hob : ObR CC μ Mt w (.cells 0 xs) 0 (.cells (vs.toArray ++ Builtin.zeroCells zv.cells (grownCap w m 0 e - m)) e (0, 0)) := by
      refine ⟨rfl, by simp; omega, fun j a v ha hv => ?_⟩
      have hj : j < vs.length := by rw [← hvs.1]; exact (List.getElem?_eq_some_iff.1 ha).1
      rw [Nat.zero_add, Array.getElem?_append_left (by simpa using hj)] at hv
      exact hvs.2 j a v ha (by simpa using hv)
    refine ⟨_, _, _, _, .inl hr, ?_, post_push h _ _ hob rfl rfl rfl rfl⟩
    refine .sl H.length 0 0 m i.size w.heap.size 0 _ _ e (updM_same _ _ _ _) (heap_push_new (w := w) rfl) hge ?_
    simp only [Nat.zero_add, Array.size_append, List.size_toArray, hvl, hzs, hzi, ← Nat.add_mul]
    exact Nat.mul_le_mul_right _ (by omega)
  split at hev
  · -- nil
    have hcs := vr_s hs
    split at hev
    · rename_i hm
      cases hev
      rw [hcs]
      exact OpRes.still h (.s _) (stay none 0 0 hm (Nat.le_refl _))
    · rename_i hm
      split at hev
      · rename_i hbb
        cases hev
        exact newRes none (.inl rfl) hm hbb hcs
      · cases hev
  · -- empty
    cases hs with
    | esl a =>
      split at hev
      · rename_i hm
        cases hev
        exact OpRes.still h (.esl a) (stay (some a) 0 0 hm (Nat.le_refl _))
      · rename_i hm
        split at hev
        · rename_i hbb
          cases hev
          exact newRes (some a) (.inr ⟨a, rfl⟩) hm hbb rfl
        · cases hev
  · -- what came in
    rename_i es sz'
    split at hev
    · rename_i hm
      cases hev
      cases hs with
      | psl es sz' B o cap arr e' fr hB hM hc hz' hs' hv =>
        exact OpRes.still h (.psl es sz' B o cap arr e' fr hB hM hc hz' hs' hv) (stay _ _ _ hm.1 hc)
      | psl0 _ cap a => exact OpRes.still h (.psl0 _ cap a) (stay _ _ _ hm.1 (by omega))
    · cases hev
  · -- a row of one's own
    rename_i id g off len sz'
    split at hev
    case isFalse => cases hev
    rename_i hc
    obtain ⟨rfl, hbase⟩ := hc
    split at hev
    case h_2 => cases hev
    rename_i row hrow
    split at hev
    case isFalse => cases hev
    rename_i hfit
    split at hev
    · rename_i hm
      cases hev
      cases hs with
      | sl _ _ _ _ _ B b cap arr e' hm' hB hcap hs' => exact OpRes.still h (.sl _ _ _ _ _ B b cap arr e' hm' hB hcap hs') (stay _ _ _ hm hcap)
      | sl0 _ _ _ _ B b a hm' => exact OpRes.still h (.sl0 _ _ _ _ B b a hm') (stay _ _ _ hm (Nat.le_refl _))
    · rename_i hm
      split at hev
      case isFalse => cases hev
      rename_i hbb
      cases hev
      have hlen : ((row.drop off).take (len * i.size)).length = len * i.size := by simp; omega
      have hidl : id < H.length := (List.getElem?_eq_some_iff.1 (getC_some hrow)).1
      -- it moves
      have move : ∀ (a : Option Addr) (cap : Nat) (olds : List Value) (g0 : Nat) (p0 : Nat × Nat), μ id g0 = some p0 → cap < len + m → VRs μ Mt w ((row.drop off).take (len * i.size)) olds →
          (Builtin.firstCells i.size len (.slice a len cap)).run P w.drew = .ok olds.toArray w.drew →
          OpRes CC μ Mt w H ((do pure (.value (← Builtin.append_ ts ty #[.slice a len cap, c])) : Sem Next).run P w) (.sl id (g + 1) 0 (len + m) i.size) (H.set id (.cells (g + 1) ((row.drop off).take (len * i.size) ++ xs))) := by
        intro a cap olds g0 p0 hnm hg holds hfc
        have hr := run_grow (P := P) (w := w) (base := a) (sLen := len) (sCap := cap) (ty := ty) h0 h1 ht ht' hi hzv hb hl0 hfc hf1 hg hbb
        have hge := grownCap_ge w (len + m) cap e
        have hol : olds.length = len * i.size := by rw [← holds.1, hlen]
        have hzs : (Builtin.zeroCells zv.cells (grownCap w (len + m) cap e - (len + m))).size = (grownCap w (len + m) cap e - (len + m)) * zv.cells.size := size_zeroCells _ _
        have hall := holds.append hvs
        have hob : ObR CC μ Mt w (.cells (g + 1) ((row.drop off).take (len * i.size) ++ xs)) 0 (.cells (olds.toArray ++ vs.toArray ++ Builtin.zeroCells zv.cells (grownCap w (len + m) cap e - (len + m))) e (0, 0)) := by
          refine ⟨rfl, by have := hall.1; simp at this ⊢; omega, fun j a v ha hv => ?_⟩
          have hj : j < (olds ++ vs).length := by rw [← hall.1]; exact (List.getElem?_eq_some_iff.1 ha).1
          rw [Nat.zero_add, Array.getElem?_append_left (by simpa using hj)] at hv
          exact hall.2 j a v ha (by simpa using hv)
        have hr2 : ((do pure (.value (← Builtin.append_ ts ty #[.slice a len cap, c])) : Sem Next).run P w) = .ok (.value (.slice (some ⟨w.heap.size, 0, none⟩) (len + m) (grownCap w (len + m) cap e))) (w.drew.alloc (.cells (olds.toArray ++ vs.toArray ++ Builtin.zeroCells zv.cells (grownCap w (len + m) cap e - (len + m))) e)) := by
          simp only [Sem.run_bind, hr, Result.andThen_ok, Sem.run_pure]
        refine ⟨_, _, _, _, .inl hr2, ?_, post_move h _ (g + 1) (getC_some hrow) hnm (h.next hrow) (fun j hj => hj.symm) (fun j c' e' k q hk => by cases e'; have := h.gens _ _ _ _ _ hk (getC_some hrow); omega) hob rfl rfl rfl rfl⟩
        refine .sl id (g + 1) 0 (len + m) i.size w.heap.size 0 _ _ e (updM_same _ _ _ _) (heap_push_new (w := w) rfl) hge ?_
        simp only [Nat.zero_add, Array.size_append, List.size_toArray, hol, hvl, hzs, hzi, ← Nat.add_mul]
        exact Nat.mul_le_mul_right _ (by omega)
      cases hs with
      | sl0 _ _ _ _ B b a hm' =>
        refine move (some a) 0 [] g (B, b) hm' (by omega) ⟨by simp, fun j a v ha _ => by simp at ha⟩ ?_
        simp [Builtin.firstCells, loadCells, loadCellsFrom]
      | sl _ _ _ _ _ B b cap arr e' hm' hB hcap hs' =>
        by_cases hroom : len + m ≤ cap
        · -- there is room
          obtain ⟨arr0, e0, hB0, hsz0, hr0⟩ := h.row hrow hm'
          rw [hB] at hB0
          cases hB0
          have hmulc : len * i.size + m * i.size ≤ cap * i.size := by rw [← Nat.add_mul]; exact Nat.mul_le_mul_right _ hroom
          have hst := run_storeCells_at P B (b + off + len * i.size) e' vs 0 arr w hB (by omega) (vrs_one hvs hone)
          simp only [Nat.add_zero] at hst
          have hrn := run_room (P := P) (w := w) (base := some ⟨B, b + off, none⟩) (sLen := len) (sCap := cap) (ty := ty) h0 h1 ht ht' hi hl0 hf0 hroom (fun a ha => by cases ha; rw [add_mk]; exact hst) (fun h => by cases h)
          have hsz1 : ((arr.toList.take (b + off + len * i.size) ++ vs ++ arr.toList.drop (b + off + len * i.size + vs.length)).toArray).size = arr.size := by simp; omega
          have hrn2 : ((do pure (.value (← Builtin.append_ ts ty #[.slice (some ⟨B, b + off, none⟩) len cap, c])) : Sem Next).run P w) = .ok (.value (.slice (some ⟨B, b + off, none⟩) (len + m) cap)) (w.setRow B (arr.toList.take (b + off + len * i.size) ++ vs ++ arr.toList.drop (b + off + len * i.size + vs.length)).toArray) := by
            simp only [Sem.run_bind, hrn, Result.andThen_ok, Sem.run_pure]
          refine ⟨.slice (some ⟨B, b + off, none⟩) (len + m) cap, _, _, _, .inl hrn2, ?_, post_set h (o' := .cells (arr.toList.take (b + off + len * i.size) ++ vs ++ arr.toList.drop (b + off + len * i.size + vs.length)).toArray e' (0, 0)) (g + 1) (b + off) (getC_some hrow) rfl hm' hB ?_ (by simp) (.inr (h.next hrow)) (fun j hj => hj.symm) (fun j c' e' k q hk => by cases e'; have := h.gens _ _ _ _ _ hk (getC_some hrow); omega) (setRow_eq hB) rfl rfl rfl ?_ ?_⟩
          · exact .sl id (g + 1) 0 (len + m) i.size B (b + off) cap _ e' (updM_same _ _ _ _) (setRow_heap w B arr _ e' (0, 0) hB) hroom (by rw [hsz1]; omega)
          · intro arr1 e1 fr1 h1'
            cases h1'
            exact ⟨_, rfl, hsz1⟩
          · intro v hx
            have hx : v ∈ (row.drop off).take (len * i.size) ++ xs := hx
            have hcw : ∀ v ∈ row, VW H.length v := h.wf id _ (getC_some hrow)
            rcases List.mem_append.1 hx with hx | hx
            · exact hcw v (List.mem_of_mem_drop (List.mem_of_mem_take hx))
            · exact hvs.vw h.dom v hx
          · intro _ μ' Mt' hμ hM
            have hk : ∀ K, K < w.heap.size → ¬ Mt K → (w.setRow B (arr.toList.take (b + off + len * i.size) ++ vs ++ arr.toList.drop (b + off + len * i.size + vs.length)).toArray).heap[K]? = w.heap[K]? :=
              fun K _ hn => setRow_other w B K _ (fun e => hn (e ▸ (h.isMut _ _ _ _ hm').1))
            have hsh : ∀ (K : Nat) (a0 : Array Value) (e : TypeId) (fr : Nat × Nat), w.heap[K]? = some (.cells a0 e fr) → ∃ arr', (w.setRow B (arr.toList.take (b + off + len * i.size) ++ vs ++ arr.toList.drop (b + off + len * i.size + vs.length)).toArray).heap[K]? = some (.cells arr' e fr) ∧ arr'.size = a0.size := by
              intro K a0 e0 fr0 hK
              by_cases ck : K = B
              · subst ck
                rw [hB] at hK; cases hK
                exact ⟨_, setRow_heap w K arr _ e' (0, 0) hB, hsz1⟩
              · exact ⟨a0, (setRow_other w B K _ ck).trans hK, rfl⟩
            refine ⟨rfl, by rw [hsz1]; have := hvs.1; simp; omega, ?_⟩
            intro j a v ha hv
            have mono : VR μ Mt w a v → VR μ' Mt' (w.setRow B (arr.toList.take (b + off + len * i.size) ++ vs ++ arr.toList.drop (b + off + len * i.size + vs.length)).toArray) a v :=
              fun x => x.mono hμ (fun K hK hm => (hM K hK).1 hm) hk hsh
            apply mono
            have hv2 : (arr.toList.take (b + off + len * i.size) ++ vs ++ arr.toList.drop (b + off + len * i.size + vs.length))[b + off + j]? = some v := by simpa using hv
            by_cases c1 : j < len * i.size
            · rw [List.getElem?_append_left (by omega), List.getElem?_take_of_lt c1, List.getElem?_drop] at ha
              rw [List.append_assoc, List.getElem?_append_left (by simp; omega), List.getElem?_take_of_lt (by omega)] at hv2
              exact hr0 _ a v ha (by rw [← Nat.add_assoc]; simpa using hv2)
            · rw [List.getElem?_append_right (by omega), hlen] at ha
              have hj : j - len * i.size < vs.length := by rw [← hvs.1]; exact (List.getElem?_eq_some_iff.1 ha).1
              rw [List.append_assoc, List.getElem?_append_right (by simp; omega), List.getElem?_append_left (by simp; omega)] at hv2
              have e2 : b + off + j - (List.take (b + off + len * i.size) arr.toList).length = j - len * i.size := by simp; omega
              rw [e2] at hv2
              exact hvs.2 _ a v ha hv2
        · obtain ⟨olds, holds, hcell⟩ := h.place hrow hm' hlen
          exact move (some ⟨B, b + off, none⟩) cap olds g (B, b) hm' (by omega) holds (run_firstCells_some (P := P) w.drew i.size len _ len cap olds (by rw [← holds.1, hlen]) (fun j v hv => by simpa using hcell j v hv))
  · cases hev
end
end Go.AM
