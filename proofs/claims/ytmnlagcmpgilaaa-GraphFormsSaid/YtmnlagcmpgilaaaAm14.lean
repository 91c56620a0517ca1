/-
  What operations look at and keep: for rows whose order is drawn.
-/
import Derived.Test.YtmnlagcmpgilaaaAm13
set_option linter.all false
namespace Go.AM
open Go.RowKit
section
variable {call : CallF} {base : Nat} {fr fr' : List V} {H H' : Heap}

theorem bndA_congr {d : Nat} {o : Option Opd} (h : ∀ x ∈ o.toList, ev fr x = ev fr' x) : bndA fr d o = bndA fr' d o := by
  cases o with
  | none => rfl
  | some x => simp only [bndA, h x (by simp)]

theorem evOp_congr (op : AOp) (h : ∀ x ∈ op.opds, ev fr x = ev fr' x) : evOp call base fr H op = evOp call base fr' H op := by
  cases op
  case mkFn f a b =>
    have ha : a.map (ev fr) = a.map (ev fr') := List.map_congr_left fun x hx => h x (List.mem_append_left _ hx)
    have hb : b.map (ev fr) = b.map (ev fr') := List.map_congr_left fun x hx => h x (List.mem_append_right _ hx)
    simp only [evOp, ha, hb]
  case build z pl ps =>
    have hp : ps.map (fun p => (p.1, ev fr p.2)) = ps.map (fun p => (p.1, ev fr' p.2)) := List.map_congr_left fun p hp => by rw [h p.2 (List.mem_map_of_mem hp)]
    simp only [evOp, hp]
  case buildSl a b c ps =>
    have hp : ps.map (fun p => (p.1, ev fr p.2)) = ps.map (fun p => (p.1, ev fr' p.2)) := List.map_congr_left fun p hp => by rw [h p.2 (List.mem_map_of_mem hp)]
    simp only [evOp, hp]
  case call f xs =>
    have hx : xs.map (ev fr) = xs.map (ev fr') := List.map_congr_left fun x hx => h x (List.mem_cons_of_mem _ hx)
    simp only [evOp, hx, h f List.mem_cons_self]
  case callR f xs =>
    have hx : xs.map (ev fr) = xs.map (ev fr') := List.map_congr_left fun x hx => h x (List.mem_cons_of_mem _ hx)
    simp only [evOp, hx, h f List.mem_cons_self]
  case callP f xs =>
    have hx : xs.map (ev fr) = xs.map (ev fr') := List.map_congr_left fun x hx => h x hx
    simp only [evOp, hx]
  case callQ f xs =>
    have hx : xs.map (ev fr) = xs.map (ev fr') := List.map_congr_left fun x hx => h x hx
    simp only [evOp, hx]
  case subStr x lo hi =>
    have h1 : bndA fr 0 lo = bndA fr' 0 lo := bndA_congr fun y hy => h y (List.mem_cons_of_mem _ (List.mem_append_left _ hy))
    have h2 : ∀ d, bndA fr d hi = bndA fr' d hi := fun d => bndA_congr fun y hy => h y (List.mem_cons_of_mem _ (List.mem_append_right _ hy))
    simp only [evOp, h x List.mem_cons_self, h1, h2]
  case subSl sz x lo hi mx =>
    have h0 : ∀ y ∈ lo.toList ++ hi.toList ++ mx.toList, ev fr y = ev fr' y := fun y hy => h y (List.mem_cons_of_mem _ hy)
    have h1 : bndA fr 0 lo = bndA fr' 0 lo := bndA_congr fun y hy => h0 y (List.mem_append_left _ (List.mem_append_left _ hy))
    have h2 : ∀ d, bndA fr d hi = bndA fr' d hi := fun d => bndA_congr fun y hy => h0 y (List.mem_append_left _ (List.mem_append_right _ hy))
    have hx := h x List.mem_cons_self
    cases mx with
    | none => simp only [evOp, hx, h1, h2]
    | some m =>
      have hm := h0 m (by simp)
      cases hi with
      | none => simp only [evOp]
      | some y =>
        have hy := h0 y (by simp)
        simp only [evOp, hx, h1, hm]
        cases bndA fr' 0 lo with
        | none => rfl
        | some k => first | (rw [hy]; done) | (simp only [hy]; done) | (split <;> first | rfl | (rename_i e1 e2; cases e1; rw [hy]; done))
  all_goals simp only [AOp.opds, List.mem_cons, List.not_mem_nil, or_false, forall_eq_or_imp, forall_eq] at h
  all_goals first | (simp only [evOp]; done) | (simp only [evOp, h]; done) | (simp only [evOp, h.1, h.2]; done) | (simp only [evOp, h.1, h.2.1, h.2.2]; done)

theorem evOp_t {op : AOp} (ht : op.cls = .t) {v : V} (h : evOp call base fr H op = some (v, H')) : H' = H ∧ ∀ H2, evOp call base fr H2 op = some (v, H2) := by
  cases op <;> first | (simp [AOp.cls] at ht; done) | skip
  case un op x =>
    simp only [evOp] at h ⊢
    split at h <;> first | (cases h; done) | (cases h; exact ⟨rfl, fun _ => rfl⟩) | skip
    rename_i hx
    simp only [Option.map_eq_some_iff] at h
    obtain ⟨b, hb, e⟩ := h
    cases e
    exact ⟨rfl, fun H2 => by rw [hb]; rfl⟩
  case bin op x y =>
    simp only [evOp] at h ⊢
    split at h <;> first | (cases h; done) | skip
    simp only [Option.map_eq_some_iff] at h
    obtain ⟨b, hb, e⟩ := h
    cases e
    exact ⟨rfl, fun H2 => by rw [hb]; rfl⟩
  case field agg off n x =>
    simp only [evOp] at h ⊢
    split at h <;> first | (cases h; done) | skip
    split at h <;> first | (cases h; done) | skip
    rename_i hx hl
    simp only [Option.map_eq_some_iff] at h
    obtain ⟨b, hb, e⟩ := h
    cases e
    refine ⟨rfl, fun H2 => ?_⟩
    rw [if_pos hl, hb]; rfl
  case minmax mx x y =>
    simp only [evOp] at h ⊢
    split at h <;> first | (cases h; done) | skip
    split at h <;> first | (cases h; done) | skip
    rename_i k a k' b h1 h2 h3
    cases h
    refine ⟨rfl, fun H2 => ?_⟩
    simp only [h3, if_true]
  all_goals
    simp only [evOp] at h ⊢
    repeat' (split at h)
    all_goals first | (cases h; done) | (cases h; refine ⟨rfl, fun H2 => ?_⟩; first | rfl | (simp_all; done))

/-- What an operation that looks at one object finds. -/
theorem evOp_r {op : AOp} (ht : op.cls = .r) {v : V} (h : evOp call base fr H op = some (v, H')) :
    H' = H ∧ ∃ x, op.place = some x ∧ (∀ id, (ev fr x).obj? = some (some id) → id < H.length) ∧
      ∀ H2, (∀ id, (ev fr x).obj? = some (some id) → H2[id]? = H[id]?) → evOp call base fr H2 op = some (v, H2) := by
  cases op <;> first | (simp [AOp.cls] at ht; done) | skip
  case load agg n a =>
    simp only [evOp, Option.map_eq_some_iff] at h
    obtain ⟨b, hb, e⟩ := h
    cases e
    refine ⟨rfl, a, rfl, fun id hid => ?_, fun H2 hH => ?_⟩
    · cases hv : ev fr a <;> rw [hv] at hid hb <;> simp [V.obj?] at hid
      · subst hid
        simp only [loadV] at hb
        split at hb
        · rename_i c hc
          unfold getC at hc
          split at hc
          · rename_i h1; exact (List.getElem?_eq_some_iff.1 h1).1
          · cases hc
        · cases hb
      · simp [loadV] at hb
    · have : loadV H2 agg n (ev fr a) = loadV H agg n (ev fr a) := by
        cases hv : ev fr a <;> simp only [loadV]
        rename_i id g off
        have := hH id (by rw [hv]; rfl)
        simp only [getC, this]
      simp only [evOp, this, hb]; rfl
  case lenS k x =>
    simp only [evOp] at h
    refine ⟨?_, x, rfl, ?_⟩
    · repeat' (split at h)
      all_goals first | (cases h; done) | (cases h; rfl)
    · cases hv : ev fr x
      case mp m =>
        rw [hv] at h
        refine ⟨fun id hid => ?_, fun H2 hH => ?_⟩
        · simp [V.obj?] at hid
          subst hid
          cases k <;> first | (simp at h; done) | skip
          change (match H[m]? with | some (.map es) => some (i64 es.length, H) | _ => none) = _ at h
          split at h
          · rename_i h1; exact (List.getElem?_eq_some_iff.1 h1).1
          · cases h
        · have hm := hH m rfl
          simp only [evOp, hv]
          cases k <;> first | (simp at h; done) | skip
          change (match H[m]? with | some (.map es) => some (i64 es.length, H) | _ => none) = _ at h
          change (match H2[m]? with | some (.map es) => some (i64 es.length, H2) | _ => none) = _
          rw [hm]
          split at h
          · cases h; rfl
          · cases h
      case ref =>
        exfalso
        rw [hv] at h
        cases k <;> simp at h
      all_goals
        rw [hv] at h
        refine ⟨fun id hid => by simp [V.obj?] at hid, fun H2 _ => ?_⟩
        simp only [evOp, hv]
        cases k <;> first | (simp at h; done) | (cases h; rfl) | skip
        all_goals
          repeat' (split at h)
        all_goals first | (cases h; done) | (cases h; rfl) | (cases h; simp_all; done)
  case mapGet kind z m k ok =>
    simp only [evOp] at h
    split at h
    · rename_i key hkey
      split at h
      · rename_i hok
        split at h
        · rename_i hm
          cases h
          refine ⟨rfl, m, rfl, fun id hid => by rw [hm] at hid; simp [V.obj?] at hid, fun H2 _ => ?_⟩
          simp only [evOp, hkey, hok, hm, if_true]
        · rename_i id hm
          split at h
          · rename_i es hes
            have hlt := (List.getElem?_eq_some_iff.1 hes).1
            have he : H' = H := by
              repeat' (split at h)
              all_goals first | (cases h; done) | (cases h; rfl)
            subst he
            refine ⟨rfl, m, rfl, fun i hid => by rw [hm] at hid; simp [V.obj?] at hid; subst hid; exact hlt, fun H2 hH => ?_⟩
            have := hH id (by rw [hm]; rfl)
            simp only [evOp, hkey, hok, hm, if_true, this, hes]
            split at h
            · cases h; rfl
            · cases h; rfl
            · cases h
          · cases h
        · cases h
      · cases h
    · cases h

/-- What an operation that makes objects keeps. -/
theorem evOp_a (hfl : ∀ v args base H r H', call v args base H = some (r, H') → H.length ≤ H'.length ∧ ∀ id, id < base → id < H.length → H'[id]? = H[id]?) {op : AOp} (ht : op.cls = .a) {v : V} (h : evOp call base fr H op = some (v, H')) :
    H.length ≤ H'.length ∧ ∀ id, id < H.length → H'[id]? = H[id]? := by
  have app : ∀ (o : Ob), H.length ≤ (H ++ [o]).length ∧ ∀ id, id < H.length → (H ++ [o])[id]? = H[id]? := fun o => ⟨by simp, fun id hid => by rw [List.getElem?_append_left hid]⟩
  cases op <;> first | (simp [AOp.cls] at ht; done) | skip
  case callR f xs =>
    simp only [evOp] at h
    obtain ⟨h1, h2⟩ := hfl _ _ _ _ _ _ h
    exact ⟨h1, fun id hid => h2 id hid hid⟩
  all_goals
    simp only [evOp] at h
    repeat' (split at h)
    all_goals first | (cases h; done) | (cases h; exact app _)

theorem evOp_store {n : Nat} {a x : Opd} {v : V} (h : evOp call base fr H (.store n a x) = some (v, H')) : ∃ id, (ev fr a).obj? = some (some id) ∧ H'.length = H.length ∧ ∀ i, i ≠ id → H'[i]? = H[i]? := by
  simp only [evOp, Option.map_eq_some_iff] at h
  obtain ⟨H1, h1, e⟩ := h
  cases e
  unfold storeV at h1
  split at h1
  · rename_i id g off hv
    split at h1
    · split at h1
      · split at h1
        · cases h1
          exact ⟨id, by rw [hv]; rfl, by simp, fun i hi => by rw [List.getElem?_set_ne (Ne.symm hi)]⟩
        · cases h1
      · cases h1
    · cases h1
  · cases h1

theorem evOp_append {sz bytes : Nat} {s x : Opd} {v : V} (h : evOp call base fr H (.append sz bytes s x) = some (v, H')) : ∀ i, i < H.length → (ev fr s).appObj ≠ some (some i) → H'[i]? = H[i]? := by
  intro i hi hne
  simp only [evOp, appendV] at h
  split at h
  · cases h
  · split at h
    · split at h
      · split at h
        · cases h; rfl
        · split at h
          · cases h; exact List.getElem?_append_left hi
          · cases h
      · split at h
        · cases h; rfl
        · split at h
          · cases h; exact List.getElem?_append_left hi
          · cases h
      · split at h
        · cases h; rfl
        · cases h
      · rename_i id g off len sz' hv
        split at h
        · split at h
          · split at h
            · split at h
              · cases h; rfl
              · split at h
                · cases h
                  refine List.getElem?_set_ne fun e => hne ?_
                  rw [hv, ← e]; rfl
                · cases h
            · cases h
          · cases h
        · cases h
      · cases h
    · cases h

/-- **What lies below the floor stays.** -/
theorem evOp_floor (hfl : ∀ v args base H r H', call v args base H = some (r, H') → H.length ≤ H'.length ∧ ∀ id, id < base → id < H.length → H'[id]? = H[id]?) {op : AOp} {v : V} (h : evOp call base fr H op = some (v, H')) :
    H.length ≤ H'.length ∧ ∀ id, id < base → id < H.length → H'[id]? = H[id]? := by
  have stay : H.length ≤ H.length ∧ ∀ id, id < base → id < H.length → H[id]? = H[id]? := ⟨Nat.le_refl _, fun _ _ _ => rfl⟩
  have app : ∀ (o : Ob), H.length ≤ (H ++ [o]).length ∧ ∀ id, id < base → id < H.length → (H ++ [o])[id]? = H[id]? := fun o => ⟨by simp, fun id _ hid => by rw [List.getElem?_append_left hid]⟩
  have set : ∀ (i : Nat) (o : Ob), base ≤ i → H.length ≤ (H.set i o).length ∧ ∀ id, id < base → id < H.length → (H.set i o)[id]? = H[id]? := fun i o hi => ⟨by simp, fun id hid _ => by rw [List.getElem?_set_ne (by omega)]⟩
  cases hc : op.cls with
  | t => obtain ⟨rfl, _⟩ := evOp_t hc h; exact stay
  | r => obtain ⟨rfl, _⟩ := evOp_r hc h; exact stay
  | a => obtain ⟨h1, h2⟩ := evOp_a hfl hc h; exact ⟨h1, fun id _ hid => h2 id hid⟩
  | w =>
    cases op <;> first | (simp [AOp.cls] at hc; done) | skip
    case call f xs => exact hfl _ _ _ _ _ _ (by simpa only [evOp] using h)
    case callP f xs =>
      simp only [evOp] at h
      repeat' (split at h)
      all_goals first | (cases h; done) | (cases h; exact stay)
    case store n a x =>
      simp only [evOp, Option.map_eq_some_iff] at h
      obtain ⟨H1, h1, e⟩ := h
      cases e
      unfold storeV at h1
      repeat' (split at h1)
      all_goals first | (cases h1; done) | (cases h1; exact set _ _ (by assumption))
    case append sz bytes s x =>
      simp only [evOp, appendV] at h
      repeat' (split at h)
      all_goals first | (cases h; done) | (cases h; first | exact stay | exact app _ | (refine set _ _ ?_; rename_i hh _ _ _ _ _ _ ; exact hh.2) | (refine set _ _ ?_; simp_all; done))
    all_goals
      simp only [evOp] at h
      repeat' (split at h)
      all_goals first | (cases h; done) | (cases h; first | exact stay | exact app _ | (refine set _ _ ?_; simp_all; done))

theorem evOp_same {op : AOp} (ht : op.isM = false) {v : V} (h : evOp call base fr H op = some (v, H')) : H' = H := by
  cases hc : op.cls with
  | t => exact (evOp_t hc h).1
  | r => exact (evOp_r hc h).1
  | a => simp [AOp.isM, hc] at ht
  | w => simp [AOp.isM, hc] at ht
end
end Go.AM
