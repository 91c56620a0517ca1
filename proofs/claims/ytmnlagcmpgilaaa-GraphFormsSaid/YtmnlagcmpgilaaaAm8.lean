/-
  Operations without calls: slices, fields, strings, append.
-/
import Derived.Test.YtmnlagcmpgilaaaAm7
set_option linter.all false
namespace Go.AM
open Go.RowKit
section
variable {CC : Code → ACode → Prop} {μ μ' : Mu} {Mt Mt' : Nat → Prop} {w w' : World} {H H' : Heap} {P : Program}

theorem sim_fieldAddr (h : HR CC μ Mt w H) {t : TypeId} {fs : Array Field} {f n : Nat} {fd : Field} {x v : V} {c : Value} (ht : P.underlying t = some (.struct fs)) (hf : fs[f]? = some fd) (hn : sizeT P fd.type = some n) (h0 : n ≠ 0)
    (hx : VR μ Mt w x c)
    (hev : (match (generalizing := false) x with
        | .ref id g o => some (V.ref id g (o + fd.offset), H)
        | .pref cs => if fd.offset ≤ cs.length then some (V.pref (cs.drop fd.offset), H) else none
        | _ => none) = some (v, H')) :
    OpRes CC μ Mt w H ((do pure (.value (← Instr.fieldAt t c f)) : Sem Next).run P w) v H' := by
  have hrun : ∀ a : Addr, ((do pure (.value (← Instr.fieldAt t (.pointer (some a)) f)) : Sem Next).run P w) = .ok (.value (.pointer (some (a.add fd.offset)))) w := by
    intro a
    simp only [Instr.fieldAt, Sem.run_bind, run_underlying ht, Result.andThen_ok, hf, Instr.sureAddr, Sem.run_pure, fieldPlace, run_sizeOf hn, Sem.run_ite, if_neg h0]
  split at hev
  · rename_i id g o
    simp at hev
    obtain ⟨rfl, rfl⟩ := hev
    obtain ⟨B, b, hm, rfl⟩ := vr_ref hx
    refine OpRes.still h ?_ (hrun _)
    rw [add_mk, Nat.add_assoc]
    exact .ref id g _ B b hm
  · rename_i cs
    split at hev
    · rename_i hle
      simp at hev
      obtain ⟨rfl, rfl⟩ := hev
      cases hx with
      | pref _ B o arr e fr hB hM hs hv =>
        refine OpRes.still h ?_ (hrun _)
        rw [add_mk]
        refine .pref _ B _ arr e fr hB hM (by simp; omega) (fun i a b ha hb => ?_)
        rw [List.getElem?_drop] at ha
        exact hv _ a b ha (by rw [← Nat.add_assoc]; exact hb)
    · simp at hev
  · simp at hev

theorem sim_field (h : HR CC μ Mt w H) {t : TypeId} {fs : Array Field} {f n : Nat} {agg : Bool} {fd : Field} {cs : List V} {v : V} {c : Value} (ht : P.underlying t = some (.struct fs)) (hf : fs[f]? = some fd) (hs : shapeT P fd.type = some (agg, n))
    (hx : VR μ Mt w (.agg cs) c) (hl : ((cs.drop fd.offset).take n).length = n) (hv : shut agg ((cs.drop fd.offset).take n) = some v) :
    OpRes CC μ Mt w H ((do pure (.value (← Instr.field t c f)) : Sem Next).run P w) v H := by
  obtain ⟨vs, rfl, hvs⟩ := vr_agg hx
  obtain ⟨h1, h2, h3⟩ := shapeT_agg hs
  have hlen : fd.offset + n ≤ vs.toList.length ∨ n = 0 := by
    have := hvs.1; simp at hl this; simp; omega
  cases agg with
  | true =>
    simp [shut] at hv
    subst hv
    refine OpRes.still h (vr_agg_mk ((hvs.drop _).take n)) ?_
    simp only [Instr.field, Sem.run_bind, run_underlying ht, Result.andThen_ok, hf, asAgg, Sem.run_pure, part, run_isAgg h1, if_true, run_sizeOf h2]
    congr 3
    apply Array.ext'
    simp
  | false =>
    have hn := h3 rfl
    subst hn
    have hk := (hvs.drop fd.offset).take 1
    revert hk hv hl
    generalize hA : (cs.drop fd.offset).take 1 = A
    intro hl hv hk
    match A, hl, hv with
    | [x], _, hv =>
      simp [shut] at hv
      subst hv
      obtain ⟨b, hb, hxb⟩ := hk.get (i := 0) (a := x) rfl
      refine OpRes.still h hxb ?_
      have hb' : vs[fd.offset]? = some b := by
        rw [List.getElem?_take_of_lt (by omega), List.getElem?_drop] at hb
        simpa using hb
      simp only [Instr.field, Sem.run_bind, run_underlying ht, Result.andThen_ok, hf, asAgg, Sem.run_pure, part, run_isAgg h1, Bool.false_eq_true, if_false, hb']

theorem run_indexAt {t e : TypeId} {sz len cap : Nat} {k : IntKind} {n : Int} {a : Addr} (ht : P.underlying t = some (.slice e)) (hs : sizeT P e = some sz) (h0 : 0 ≤ n) (h1 : n < len) :
    ((do pure (.value (← Instr.indexAt t (.slice (some a) len cap) (.int k n))) : Sem Next).run P w) = .ok (.value (.pointer (some (a.add (n.toNat * sz))))) w := by
  simp only [Instr.indexAt, asIntOf, Sem.run_bind, Sem.run_pure, Result.andThen_ok, run_underlying ht, Sem.run_ite]
  rw [if_pos ⟨h0, h1⟩]
  simp only [run_sizeOf hs, Result.andThen_ok]

theorem sim_indexAddr (h : HR CC μ Mt w H) {t e : TypeId} {sz : Nat} {x v : V} {c : Value} {k : IntKind} {n : Int} (ht : P.underlying t = some (.slice e)) (hs : sizeT P e = some sz)
    (hx : VR μ Mt w x c)
    (hev : (match (generalizing := false) x with
        | .sl id g off len sz' => if 0 ≤ n ∧ n < len ∧ sz' = sz then some (V.ref id g (off + n.toNat * sz), H) else none
        | .psl es sz' => if 0 ≤ n ∧ sz' = sz then match es[n.toNat]? with
          | some e => some (V.pref e, H)
          | none => none
        else none
        | _ => none) = some (v, H')) :
    OpRes CC μ Mt w H ((do pure (.value (← Instr.indexAt t c (.int k n))) : Sem Next).run P w) v H' := by
  split at hev
  · rename_i id g off len sz'
    split at hev
    · rename_i hc
      obtain ⟨h0, h1, rfl⟩ := hc
      simp at hev
      obtain ⟨rfl, rfl⟩ := hev
      cases hx with
      | sl _ _ _ _ _ B b cap arr e' hm hB hcap hsz =>
        refine OpRes.still h ?_ (run_indexAt ht hs h0 h1)
        rw [add_mk, Nat.add_assoc]
        exact .ref id g _ B b hm
      | sl0 => simp at h1; omega
    · simp at hev
  · rename_i es sz'
    split at hev
    · rename_i hc
      obtain ⟨h0, rfl⟩ := hc
      split at hev
      · rename_i el hel
        simp at hev
        obtain ⟨rfl, rfl⟩ := hev
        have hlt : n.toNat < es.length := (List.getElem?_eq_some_iff.1 hel).1
        cases hx with
        | psl _ _ B o cap arr e' fr hB hM hcap hz hsz hv =>
          refine OpRes.still h ?_ (run_indexAt ht hs h0 (by omega))
          rw [add_mk]
          have hll := hz _ _ hel
          have hmul : n.toNat * sz' + sz' ≤ es.length * sz' := by
            have : (n.toNat + 1) * sz' ≤ es.length * sz' := Nat.mul_le_mul_right _ hlt
            rwa [Nat.add_mul, Nat.one_mul] at this
          exact .pref el B _ arr e' fr hB hM (by omega) (fun i a b ha hb => hv _ el i a b hel ha hb)
        | psl0 => simp at hlt
      · simp at hev
    · simp at hev
  · simp at hev

theorem bytes_get {s : ByteArray} {n : Nat} {c : UInt8} (h : s.data.toList[n]? = some c) : s[n]? = some c := by
  have hl : n < s.size := by have := (List.getElem?_eq_some_iff.1 h).1; simpa using this
  rw [getElem?_pos s n hl]
  have : s.data.toList[n]? = some s.data[n] := by simp
  rw [this] at h
  exact h

theorem run_indexStr {t : TypeId} {s : ByteArray} {k : IntKind} {n : Int} {c : UInt8} (ht : P.underlying t = some .string) (h0 : 0 ≤ n) (hc : s.data.toList[n.toNat]? = some c) :
    ((do pure (.value (← Instr.index t (.string s) (.int k n))) : Sem Next).run P w) = .ok (.value (.int .u8 c.toNat)) w := by
  simp only [Instr.index, asIntOf, Sem.run_bind, Sem.run_pure, Result.andThen_ok, run_underlying ht, if_pos h0, bytes_get hc]

/-! ### Slices of slices -/

/-- A bound, read. -/
def BndR (o : Option Value) (d l : Int) : Prop := (o = none ∧ l = d) ∨ ∃ k, o = some (.int k l)

theorem run_bounds {s : Bool} {len cap : Nat} {lo hi : Option Value} {l h : Int} (hl : BndR lo 0 l) (hh : BndR hi len h) (h0 : 0 ≤ l) (h1 : l ≤ h) (h2 : h ≤ len) (h3 : len ≤ cap) :
    (Instr.sliceBounds s len cap lo hi none).run P w = .ok (l.toNat, h.toNat, cap) w := by
  have hb : ∀ (k : IntKind) (i : Int) (y : Nat) (code : BoundsCode), 0 ≤ i → i ≤ y → (Instr.sliceBound (.int k i) y code).run P w = .ok i.toNat w := fun k i y code a b => run_sliceBound w k i y code a b
  rcases hh with ⟨rfl, rfl⟩ | ⟨kh, rfl⟩ <;> rcases hl with ⟨rfl, rfl⟩ | ⟨kl, rfl⟩
  · simp [Instr.sliceBounds]
  · simp only [Instr.sliceBounds, Sem.run_bind, Sem.run_pure, Result.andThen_ok, hb kl l len _ h0 h1]; simp
  · simp only [Instr.sliceBounds, Sem.run_bind, Sem.run_pure, Result.andThen_ok, hb kh h cap _ (by omega) (by omega)]; simp
  · simp only [Instr.sliceBounds, Sem.run_bind, Sem.run_pure, Result.andThen_ok, hb kh h cap _ (by omega) (by omega), hb kl l h.toNat _ h0 (by omega)]

theorem run_bounds3 {len cap : Nat} {lo : Option Value} {k1 k2 : IntKind} (hl : BndR lo 0 0) :
    (Instr.sliceBounds true len cap lo (some (.int k1 0)) (some (.int k2 0))).run P w = .ok (0, 0, 0) w := by
  have hb : ∀ (k : IntKind) (y : Nat) (code : BoundsCode), (Instr.sliceBound (.int k 0) y code).run P w = .ok 0 w := fun k y code => by
    have := run_sliceBound (P := P) w k 0 y code (by omega) (by omega); simpa using this
  rcases hl with ⟨rfl, _⟩ | ⟨kl, rfl⟩ <;> simp only [Instr.sliceBounds, Sem.run_bind, Sem.run_pure, Result.andThen_ok, hb]

theorem run_sliceAt {t e : TypeId} {sz len cap : Nat} {a : Option Addr} {lo hi mx : Option Value} {l h m : Nat} (ht : P.underlying t = some (.slice e)) (hs : sizeT P e = some sz)
    (hb : (Instr.sliceBounds true len cap lo hi mx).run P w = .ok (l, h, m) w) :
    ((do pure (.value (← Instr.sliceAt t (.slice a len cap) lo hi mx)) : Sem Next).run P w) = .ok (.value (.slice (if m = l then a else a.map (·.add (l * sz))) (h - l) (m - l))) w := by
  simp only [Instr.sliceAt, Sem.run_bind, run_underlying ht, Result.andThen_ok, Instr.slice, hb, run_sizeOf hs, Sem.run_pure]

theorem sim_subSl (h : HR CC μ Mt w H) {t e : TypeId} {sz : Nat} {x v : V} {c : Value} {lo hi : Option Value} {l hh : Int} (ht : P.underlying t = some (.slice e)) (hs : sizeT P e = some sz) (hx : VR μ Mt w x c)
    (hl : BndR lo 0 l) [∀ d : Int, Decidable (BndR hi d hh)]
    (hev : (match (generalizing := false) x with
      | .s (.slice none 0 0) => if BndR hi 0 hh ∧ l = 0 ∧ hh = 0 then some nilS else none
      | .esl => if BndR hi 0 hh ∧ l = 0 ∧ hh = 0 then some .esl else none
      | .psl es sz' => if BndR hi es.length hh ∧ 0 ≤ l ∧ l ≤ hh ∧ hh ≤ es.length ∧ sz' = sz then some (V.psl ((es.drop l.toNat).take (hh - l).toNat) sz) else none
      | .sl id g off len sz' => if BndR hi len hh ∧ 0 ≤ l ∧ l ≤ hh ∧ hh ≤ len ∧ sz' = sz then some (V.sl id g (off + l.toNat * sz) (hh - l).toNat sz) else none
      | _ => none) = some v) :
    OpRes CC μ Mt w H ((do pure (.value (← Instr.sliceAt t c lo hi none)) : Sem Next).run P w) v H := by
  split at hev
  · split at hev
    · rename_i hc
      obtain ⟨hb, rfl, rfl⟩ := hc
      simp at hev; subst hev
      have := vr_s hx; subst this
      refine OpRes.still h (.s _) ?_
      rw [run_sliceAt (a := none) (len := 0) (cap := 0) (sz := sz) ht hs (run_bounds hl (by simpa using hb) (by omega) (by omega) (by omega) (by omega))]
      simp
    · simp at hev
  · split at hev
    · rename_i hc
      obtain ⟨hb, rfl, rfl⟩ := hc
      simp at hev; subst hev
      cases hx with
      | esl a =>
        refine OpRes.still h (.esl a) ?_
        rw [run_sliceAt (a := some a) (len := 0) (cap := 0) (sz := sz) ht hs (run_bounds hl (by simpa using hb) (by omega) (by omega) (by omega) (by omega))]
        simp
    · simp at hev
  · rename_i es sz'
    split at hev
    · rename_i hc
      obtain ⟨hb, h0, h1, h2, rfl⟩ := hc
      simp at hev; subst hev
      have hdt : ∀ i el, ((es.drop l.toNat).take (hh - l).toNat)[i]? = some el → es[l.toNat + i]? = some el := by
        intro i el he
        have hi : i < (hh - l).toNat := by have := (List.getElem?_eq_some_iff.1 he).1; simp at this; omega
        rwa [List.getElem?_take_of_lt hi, List.getElem?_drop] at he
      have hlen : ((es.drop l.toNat).take (hh - l).toNat).length = (hh - l).toNat := by simp; omega
      cases hx with
      | psl _ _ B o cap arr e' fr hB hM hcap hz hsz hv =>
        have hrun := run_sliceAt (P := P) (w := w) (a := some ⟨B, o, none⟩) (len := es.length) (cap := cap) ht hs (run_bounds hl hb h0 h1 h2 hcap)
        refine OpRes.still h ?_ hrun
        have hsub : hh.toNat - l.toNat = (hh - l).toNat := by omega
        by_cases hcl : cap = l.toNat
        · rw [if_pos hcl, hsub]
          have e0 : (hh - l).toNat = 0 := by omega
          rw [e0] at hlen ⊢
          rw [List.take_zero]
          exact .psl0 _ _ _
        · rw [if_neg hcl, hsub, Option.map_some, add_mk]
          have hmul : l.toNat * sz' + (hh - l).toNat * sz' ≤ es.length * sz' := by
            rw [← Nat.add_mul]; exact Nat.mul_le_mul_right _ (by omega)
          have key : VR μ Mt w (.psl ((es.drop l.toNat).take (hh - l).toNat) sz') (.slice (some ⟨B, o + l.toNat * sz', none⟩) ((es.drop l.toNat).take (hh - l).toNat).length (cap - l.toNat)) := by
            refine .psl _ sz' B (o + l.toNat * sz') (cap - l.toNat) arr e' fr hB hM (by rw [hlen]; omega) (fun i el he => hz _ el (hdt i el he)) (by rw [hlen]; omega) (fun i el j a b he ha hb' => ?_)
            refine hv _ el j a b (hdt i el he) ha ?_
            rw [Nat.add_mul]
            rw [← hb']
            congr 1
            omega
          rw [hlen] at key
          exact key
      | psl0 _ cap a =>
        have hrun := run_sliceAt (P := P) (w := w) (a := some a) (len := 0) (cap := cap) (sz := sz') ht hs (run_bounds hl (by simpa using hb) h0 h1 (by simpa using h2) (by omega))
        have e1 : hh.toNat - l.toNat = 0 := by simp at h2; omega
        rw [e1] at hrun
        refine OpRes.still h ?_ hrun
        simp only [List.drop_nil, List.take_nil]
        have e2 : l.toNat = 0 := by simp at h2; omega
        split
        · exact .psl0 _ _ _
        · simp only [Option.map_some]; exact .psl0 _ _ _
    · simp at hev
  · rename_i id g off len sz'
    split at hev
    · rename_i hc
      obtain ⟨hb, h0, h1, h2, rfl⟩ := hc
      simp at hev; subst hev
      have hsub : hh.toNat - l.toNat = (hh - l).toNat := by omega
      cases hx with
      | sl _ _ _ _ _ B b cap arr e' hm hB hcap hsz =>
        have hrun := run_sliceAt (P := P) (w := w) (a := some ⟨B, b + off, none⟩) (len := len) (cap := cap) ht hs (run_bounds hl hb h0 h1 h2 hcap)
        refine OpRes.still h ?_ hrun
        by_cases hcl : cap = l.toNat
        · rw [if_pos hcl, hsub]
          have e0 : (hh - l).toNat = 0 := by omega
          have e1 : cap - l.toNat = 0 := by omega
          rw [e0, e1]
          exact .sl0 _ _ _ _ B b _ hm
        · rw [if_neg hcl, hsub, Option.map_some, add_mk, Nat.add_assoc]
          have hmul : l.toNat * sz' + (cap - l.toNat) * sz' = cap * sz' := by
            rw [← Nat.add_mul]; congr 1; omega
          exact .sl id g _ _ sz' B b _ arr e' hm hB (by omega) (by omega)
      | sl0 _ _ _ _ B b a hm =>
        have hrun := run_sliceAt (P := P) (w := w) (a := some a) (len := 0) (cap := 0) (sz := sz') ht hs (run_bounds hl (by simpa using hb) h0 h1 (by simpa using h2) (by omega))
        have e1 : hh.toNat - l.toNat = 0 := by simp at h2; omega
        have e2 : l.toNat = 0 := by simp at h2; omega
        rw [e1, e2] at hrun
        refine OpRes.still h ?_ hrun
        simp only [if_true]
        rw [show (hh - l).toNat = 0 by omega]
        exact .sl0 _ _ _ _ B b _ hm
    · simp at hev
  · simp at hev

theorem sim_subSl3 (h : HR CC μ Mt w H) {t e : TypeId} {sz : Nat} {x v : V} {c : Value} {lo : Option Value} {k1 k2 : IntKind} (ht : P.underlying t = some (.slice e)) (hs : sizeT P e = some sz) (hx : VR μ Mt w x c)
    (hl : BndR lo 0 0)
    (hev : (match (generalizing := false) x with
          | .s (.slice none 0 0) => some (nilS, H)
          | .esl => some (.esl, H)
          | .psl _ _ => some (.esl, H)
          | .sl _ _ _ _ _ => some (.esl, H)
          | _ => none) = some (v, H')) :
    OpRes CC μ Mt w H ((do pure (.value (← Instr.sliceAt t c lo (some (.int k1 0)) (some (.int k2 0)))) : Sem Next).run P w) v H' := by
  have hrun : ∀ a len cap, ((do pure (.value (← Instr.sliceAt t (.slice a len cap) lo (some (.int k1 0)) (some (.int k2 0)))) : Sem Next).run P w) = .ok (.value (.slice a 0 0)) w := by
    intro a len cap
    rw [run_sliceAt ht hs (run_bounds3 hl)]
    simp
  split at hev <;> simp at hev
  all_goals obtain ⟨rfl, rfl⟩ := hev
  · rw [vr_s hx]; exact OpRes.still h (.s _) (hrun _ _ _)
  all_goals
    cases hx <;> exact OpRes.still h (.esl _) (hrun _ _ _)

theorem run_subStr {t : TypeId} {s : ByteArray} {lo hi : Option Value} {l h : Int} (ht : P.underlying t = some .string) (hl : BndR lo 0 l) (hh : BndR hi s.size h) (h0 : 0 ≤ l) (h1 : l ≤ h) (h2 : h ≤ s.size) :
    ((do pure (.value (← Instr.sliceAt t (.string s) lo hi none)) : Sem Next).run P w) = .ok (.value (.string (s.extract l.toNat h.toNat))) w := by
  simp only [Instr.sliceAt, Sem.run_bind, run_underlying ht, Result.andThen_ok, Instr.slice, Option.isSome_none, Bool.false_eq_true, if_false, run_bounds (P := P) (w := w) (s := false) hl hh h0 h1 h2 (Nat.le_refl _), Sem.run_pure]
end
end Go.AM
