/-
  Operations without calls: maps, slices, fields, strings.
-/
import Derived.Test.YtmnlagcmpgilaaaAm6
set_option linter.all false
namespace Go.AM
open Go.RowKit
section
variable {CC : Code → ACode → Prop} {μ μ' : Mu} {Mt Mt' : Nat → Prop} {w w' : World} {H H' : Heap} {P : Program}

/-! ### Maps -/

theorem kindT_eq {t : TypeId} {k : TypeDesc} (h : kindT P t = some k) : P.underlying t = some k := by
  unfold kindT at h
  split at h <;> simp at h <;> subst h <;> assumption

theorem keyOk_cases {k : TypeDesc} {v : Value} (h : keyOk k v = true) : (∃ q n, k = .int q ∧ v = .int q n) ∨ (∃ s, k = .string ∧ v = .string s) ∨ (∃ b, k = .bool ∧ v = .bool b) := by
  unfold keyOk at h
  split at h <;> simp_all

theorem run_checkKey {e : Bool} (d : Nat) {t : TypeId} {k : TypeDesc} {v : Value} (ht : P.underlying t = some k) (hk : keyOk k v = true) : (Instr.checkKey e (d + 1) t v).run P w = .ok () w := by
  rcases keyOk_cases hk with ⟨q, n, rfl, rfl⟩ | ⟨s, rfl, rfl⟩ | ⟨b, rfl, rfl⟩ <;>
    simp only [Instr.checkKey, Sem.run_bind, run_underlying ht, Result.andThen_ok] <;> rfl

/-- The entries read. -/
def MapR (μ : Mu) (Mt : Nat → Prop) (w : World) (es : List (Value × V)) (l : List MapEntry) : Prop :=
  es.length = l.length ∧ ∀ (i : Nat) (k : Value) (v : V) (e : MapEntry), es[i]? = some (k, v) → l[i]? = some e → e.key = k ∧ VR μ Mt w v e.val

theorem find_sim {kind : TypeDesc} {key : Value} : ∀ {es : List (Value × V)} {l : List MapEntry} (i : Nat) {r : Option (Nat × V)}, MapR μ Mt w es l → findA kind key es i = some r →
    (r = none → Instr.findNow kind key l i = some none) ∧
    (∀ j v, r = some (j, v) → i ≤ j ∧ ∃ e k', Instr.findNow kind key l i = some (some (j, e.val)) ∧ l[j - i]? = some e ∧ es[j - i]? = some (k', v) ∧ Instr.sameNow kind key k' = some true ∧ VR μ Mt w v e.val) := by
  intro es
  induction es with
  | nil =>
    intro l i r h hf
    have : l = [] := List.eq_nil_of_length_eq_zero (by simpa using h.1.symm)
    subst this
    simp [findA] at hf
    subst hf
    exact ⟨fun _ => rfl, fun j v h => by simp at h⟩
  | cons e es ih =>
    intro l i r h hf
    obtain ⟨k, v⟩ := e
    cases l with
    | nil => exact absurd h.1 (by simp)
    | cons x l =>
      have hx := h.2 0 k v x rfl rfl
      have ht : MapR μ Mt w es l := ⟨by simpa using h.1, fun i k v e h1 h2 => h.2 (i + 1) k v e (by simpa using h1) (by simpa using h2)⟩
      simp only [findA] at hf
      split at hf
      · rename_i hs
        simp at hf
        subst hf
        refine ⟨fun h => by simp at h, fun j u hu => ?_⟩
        simp at hu
        obtain ⟨rfl, rfl⟩ := hu
        refine ⟨Nat.le_refl _, x, k, ?_, by simp, by simp, hs, hx.2⟩
        simp [Instr.findNow, hx.1, hs]
      · rename_i hs
        obtain ⟨h1, h2⟩ := ih (i + 1) ht hf
        refine ⟨fun h => ?_, fun j u hu => ?_⟩
        · simp [Instr.findNow, hx.1, hs, h1 h]
        · obtain ⟨hle, e, k', e1, e2, e3, e4, e5⟩ := h2 j u hu
          refine ⟨by omega, e, k', by simp [Instr.findNow, hx.1, hs, e1], ?_, ?_, e4, e5⟩
          · rw [show j - i = (j - (i + 1)) + 1 by omega]; simpa using e2
          · rw [show j - i = (j - (i + 1)) + 1 by omega]; simpa using e3
      · simp at hf

theorem HR.mapAt (h : HR CC μ Mt w H) {id B : Nat} {es : List (Value × V)} (hH : H[id]? = some (.map es)) (hm : μ id 0 = some (B, 0)) :
    ∃ arr clock, w.heap[B]? = some (.map arr clock) ∧ MapR μ Mt w es arr.toList := by
  obtain ⟨o, ho, hr⟩ := h.objs id _ 0 B 0 hH rfl hm
  cases o <;> first | exact hr.elim | skip
  rename_i arr clock
  obtain ⟨_, h1, h2⟩ := hr
  exact ⟨arr, clock, ho, by simpa using h1.symm, fun i k v e a b => h2 i k v e a (by simpa using b)⟩

theorem run_getObj_map {B : Nat} {arr : Array MapEntry} {clock : Nat} (h : w.heap[B]? = some (.map arr clock)) : (getObj B).run P w = .ok (.map arr clock) w := by
  simp [getObj, Sem.run, h]

theorem run_setObj_map {B : Nat} {arr : Array MapEntry} {clock : Nat} (o : Obj) (h : w.heap[B]? = some (.map arr clock)) : (setObj B o).run P w = .ok () { w with heap := w.heap.setIfInBounds B o } := by
  simp [setObj, Sem.run, h]

theorem run_findKey {t : TypeId} {k : TypeDesc} {key : Value} {es : List MapEntry} {r : Option (Nat × Value)} (ht : P.underlying t = some k) (h : Instr.findNow k key es 0 = some r) :
    (Instr.findKey t key es).run P w = .ok r w := by
  simp [Instr.findKey, run_underlying ht, h]

theorem sim_mapGet (h : HR CC μ Mt w H) {t kt e : TypeId} {kind : TypeDesc} {zero x v : V} {c key : Value} {ok : Bool} (ht : P.underlying t = some (.map kt e)) (hk : kindT P kt = some kind) (hz : zeroT P e = some zero)
    (hx : VR μ Mt w x c) (hkey : keyOk kind key = true)
    (hev : (match (generalizing := false) x with
        | .s (.map none) => some (if ok then V.tup [zero, bl false] else zero, H)
        | .mp id => match H[id]? with
          | some (.map es) => match findA kind key es 0 with
            | some (some (_, v)) => some (if ok then V.tup [v, bl true] else v, H)
            | some none => some (if ok then V.tup [zero, bl false] else zero, H)
            | none => none
          | _ => none
        | _ => none) = some (v, H')) :
    OpRes CC μ Mt w H ((do pure (.value (← Instr.lookup t c key ok)) : Sem Next).run P w) v H' := by
  obtain ⟨zv, z1, z2, _⟩ := zeroT_run (w := w) hz
  have hzv : VR μ Mt w zero zv := ofConst_vr z2
  have hku := kindT_eq hk
  have pack : ∀ (u : V) (d : Value) (b : Bool), VR μ Mt w u d → VR μ Mt w (if ok then V.tup [u, bl b] else u) (if ok then .tuple #[d, .bool b] else d) := by
    intro u d b hu
    cases ok
    · exact hu
    · exact vr_tup_mk (vs := [d, .bool b]) (hu.cons (VR.cons (.s _) VRs.nil))
  split at hev
  · simp at hev
    obtain ⟨rfl, rfl⟩ := hev
    have := vr_s hx
    subst this
    refine OpRes.still h (pack _ zv false hzv) ?_
    have hck := run_checkKey (P := P) (w := w) (e := true) 9999 hku hkey
    have hfk : (Instr.findKey kt key []).run P w = .ok none w := run_findKey hku (by simp [Instr.findNow])
    simp only [Instr.lookup, Sem.run_bind, run_underlying ht, Result.andThen_ok, Sem.run_pure, Array.isEmpty_empty, hck, Array.toList_empty, hfk, z1]
  · rename_i id
    obtain ⟨B, hm, rfl⟩ := vr_mp hx
    split at hev
    · rename_i es hH
      obtain ⟨arr, clock, hB, hR⟩ := h.mapAt hH hm
      have hck := fun b => run_checkKey (P := P) (w := w) (e := b) 9999 hku hkey
      split at hev
      · rename_i j u hf
        simp at hev
        obtain ⟨rfl, rfl⟩ := hev
        obtain ⟨_, h2⟩ := find_sim 0 hR hf
        obtain ⟨_, en, k', f1, f2, f3, f4, f5⟩ := h2 j u rfl
        refine OpRes.still h (pack u en.val true f5) ?_
        have hfk := run_findKey (P := P) (w := w) hku f1
        simp only [Instr.lookup, Sem.run_bind, run_underlying ht, Result.andThen_ok, run_getObj_map hB, Sem.run_pure, hck, hfk]
      · rename_i hf
        simp at hev
        obtain ⟨rfl, rfl⟩ := hev
        obtain ⟨h1, _⟩ := find_sim 0 hR hf
        refine OpRes.still h (pack _ zv false hzv) ?_
        have hfk := run_findKey (P := P) (w := w) hku (h1 rfl)
        simp only [Instr.lookup, Sem.run_bind, run_underlying ht, Result.andThen_ok, run_getObj_map hB, Sem.run_pure, hck, hfk, z1]
      · simp at hev
    · simp at hev
  · simp at hev

theorem same_bits {kind : TypeDesc} {a b : Value} (hk : keyOk kind a = true) (h : Instr.sameNow kind a b = some true) : Instr.sameBits 10000 b a = true := by
  rcases keyOk_cases hk with ⟨q, n, rfl, rfl⟩ | ⟨s, rfl, rfl⟩ | ⟨x, rfl, rfl⟩
  · cases b <;> simp [Instr.sameNow] at h
    obtain ⟨rfl, h⟩ := h
    subst h
    simp [Instr.sameBits]
  · cases b <;> simp [Instr.sameNow] at h
    rw [beq_toListBytes] at h
    simp only [Instr.sameBits]
    rw [beq_toListBytes]
    simp at h
    simp [h]
  · cases b <;> simp [Instr.sameNow] at h
    subst h
    simp [Instr.sameBits]

theorem post_map (h : HR CC μ Mt w H) {id B : Nat} {es es' : List (Value × V)} {arr arr' : Array MapEntry} {clock clock' : Nat} (hH : H[id]? = some (.map es)) (hm : μ id 0 = some (B, 0)) (hB : w.heap[B]? = some (.map arr clock))
    (hR : MapR μ Mt w es' arr'.toList) :
    Post CC μ Mt w H (updM μ id 0 (B, 0)) Mt { w with heap := w.heap.setIfInBounds B (.map arr' clock') } (H.set id (.map es')) := by
  refine post_set h (o' := .map arr' clock') 0 0 hH rfl hm hB (by simp) (by simp) (.inl ⟨rfl, rfl⟩) (fun j hj => hj) (fun _ _ e => by cases e) rfl rfl rfl rfl ?_ ?_
  · intro e he
    have he : e ∈ es' := he
    obtain ⟨i, hi, rfl⟩ := List.getElem_of_mem he
    have hl := hR.1
    exact (hR.2 i es'[i].1 es'[i].2 _ (List.getElem?_eq_getElem hi) (List.getElem?_eq_getElem (by omega))).2.vw h.dom
  intro _ μ' Mt' hμ hM
  refine ⟨rfl, by simpa using hR.1.symm, fun i k v e h1 h2 => ?_⟩
  have := hR.2 i k v e h1 (by simpa using h2)
  refine ⟨this.1, this.2.mono hμ (fun K hK hm => (hM K hK).1 hm) (fun K _ hn => heap_set (w' := { w with heap := w.heap.setIfInBounds B (.map arr' clock') }) rfl (fun e => hn (e ▸ (h.isMut _ _ _ _ hm).1))) ?_⟩
  intro K a0 e0 fr0 hK
  have hne : K ≠ B := fun e => by subst e; rw [hB] at hK; cases hK
  exact ⟨a0, (heap_set (w' := { w with heap := w.heap.setIfInBounds B (.map arr' clock') }) rfl hne).trans hK, rfl⟩

theorem sim_mapUpd (h : HR CC μ Mt w H) {t kt e : TypeId} {kind : TypeDesc} {y v : V} {c key d : Value} (ht : P.underlying t = some (.map kt e)) (hk : kindT P kt = some kind)
    {id : Nat} (hx : VR μ Mt w (.mp id) c) (hy : VR μ Mt w y d) (hkey : keyOk kind key = true) {es : List (Value × V)} (hH : H[id]? = some (.map es))
    (hev : (match findA kind key es 0 with
          | some (some (i, _)) => some (und, H.set id (.map (es.set i (key, y))))
          | some none => some (und, H.set id (.map (es ++ [(key, y)])))
          | none => none) = some (v, H')) :
    OpRes CC μ Mt w H ((do Instr.mapUpdate t c key d; pure .skip : Sem Next).run P w) v H' := by
  obtain ⟨B, hm, rfl⟩ := vr_mp hx
  obtain ⟨arr, clock, hB, hR⟩ := h.mapAt hH hm
  have hku := kindT_eq hk
  have hck := run_checkKey (P := P) (w := w) (e := false) 9999 hku hkey
  split at hev
  · rename_i j u hf
    simp at hev
    obtain ⟨rfl, rfl⟩ := hev
    obtain ⟨_, h2⟩ := find_sim 0 hR hf
    obtain ⟨_, en, k', f1, f2, f3, f4, f5⟩ := h2 j u rfl
    simp only [Nat.sub_zero] at f2 f3
    have hfk := run_findKey (P := P) (w := w) hku f1
    have hjl : j < arr.size := by have := (List.getElem?_eq_some_iff.1 f2).1; simpa using this
    have hen : arr[j]? = some en := by simpa using f2
    have hkeyeq : en.key = k' := (hR.2 j k' u en f3 f2).1
    have hsb : Instr.sameBits 10000 en.key key = true := by rw [hkeyeq]; exact same_bits hkey f4
    have hks : (Instr.keyThatStays en.key key).run P w = .ok key w := by simp [Instr.keyThatStays, hsb]
    refine ⟨Go.undef, { w with heap := w.heap.setIfInBounds B (.map (arr.modify j fun e => { e with key := key, val := d }) clock) }, _, _, .inr ⟨?_, rfl⟩, .s _, post_map h (es' := es.set j (key, y)) hH hm hB ?_⟩
    · simp only [Instr.mapUpdate, Sem.run_bind, run_underlying ht, Result.andThen_ok, run_getObj_map hB, hck, hfk, hen, Option.map_some, Option.getD_some, hks, run_setObj_map _ hB, Sem.run_pure]
    · refine ⟨by simpa using hR.1, fun i k v e h1 h2 => ?_⟩
      by_cases hij : j = i
      · subst hij
        rw [List.getElem?_set_self (by have := (List.getElem?_eq_some_iff.1 f3).1; exact this)] at h1
        simp at h1
        obtain ⟨rfl, rfl⟩ := h1
        simp [hjl] at h2
        subst h2
        exact ⟨rfl, hy⟩
      · rw [List.getElem?_set_ne hij] at h1
        simp [hij] at h2
        exact hR.2 i k v e h1 (by simpa using h2)
  · rename_i hf
    simp at hev
    obtain ⟨rfl, rfl⟩ := hev
    obtain ⟨h1, _⟩ := find_sim 0 hR hf
    have hfk := run_findKey (P := P) (w := w) hku (h1 rfl)
    refine ⟨Go.undef, { w with heap := w.heap.setIfInBounds B (.map (arr.push { key, val := d, born := clock }) (clock + 1)) }, _, _, .inr ⟨?_, rfl⟩, .s _, post_map h (es' := es ++ [(key, y)]) hH hm hB ?_⟩
    · simp only [Instr.mapUpdate, Sem.run_bind, run_underlying ht, Result.andThen_ok, run_getObj_map hB, hck, hfk, run_setObj_map _ hB, Sem.run_pure]
    · have hl := hR.1
      refine ⟨by simpa using hl, fun i k v e h1 h2 => ?_⟩
      by_cases hi : i < es.length
      · rw [List.getElem?_append_left hi] at h1
        rw [Array.toList_push, List.getElem?_append_left (by omega)] at h2
        exact hR.2 i k v e h1 h2
      · rw [List.getElem?_append_right (by omega)] at h1
        rw [Array.toList_push, List.getElem?_append_right (by omega), ← hl] at h2
        have : i - es.length = 0 := by have := (List.getElem?_eq_some_iff.1 h1).1; simp at this; omega
        rw [this] at h1 h2
        simp at h1 h2
        obtain ⟨rfl, rfl⟩ := h1
        subst h2
        exact ⟨rfl, hy⟩
  · simp at hev

theorem sim_delete (h : HR CC μ Mt w H) {t kt e : TypeId} {ts : Array TypeId} {ty : TypeId} {kind : TypeDesc} {v : V} {c key : Value} (hts : ts[0]? = some t) (ht : P.underlying t = some (.map kt e)) (hk : kindT P kt = some kind)
    {id : Nat} (hx : VR μ Mt w (.mp id) c) (hkey : keyOk kind key = true) {es : List (Value × V)} (hH : H[id]? = some (.map es))
    (hev : (match findA kind key es 0 with
          | some (some (i, _)) => some (und, H.set id (.map (es.eraseIdx i)))
          | some none => some (und, H)
          | none => none) = some (v, H')) :
    OpRes CC μ Mt w H ((do pure (.value (← Builtin.delete_ ts ty #[c, key])) : Sem Next).run P w) v H' := by
  obtain ⟨B, hm, rfl⟩ := vr_mp hx
  obtain ⟨arr, clock, hB, hR⟩ := h.mapAt hH hm
  have hku := kindT_eq hk
  have hck := fun b => run_checkKey (P := P) (w := w) (e := b) 9999 hku hkey
  split at hev
  · rename_i j u hf
    simp at hev
    obtain ⟨rfl, rfl⟩ := hev
    obtain ⟨_, h2⟩ := find_sim 0 hR hf
    obtain ⟨_, en, k', f1, f2, f3, f4, f5⟩ := h2 j u rfl
    simp only [Nat.sub_zero] at f2 f3
    have hfk := run_findKey (P := P) (w := w) hku f1
    refine ⟨.tuple #[], { w with heap := w.heap.setIfInBounds B (.map (arr.eraseIdxIfInBounds j) clock) }, _, _, .inl ?_, .s _, post_map h (es' := es.eraseIdx j) hH hm hB ?_⟩
    · simp only [Builtin.delete_, hts, Sem.run_bind, run_underlying ht, Result.andThen_ok, run_getObj_map hB, hck, hfk, run_setObj_map _ hB, Sem.run_pure, List.getElem?_toArray, List.getElem?_cons_zero, List.getElem?_cons_succ]
    · have hjl : j < arr.size := by have := (List.getElem?_eq_some_iff.1 f2).1; simpa using this
      have hto : (arr.eraseIdxIfInBounds j).toList = arr.toList.eraseIdx j := by simp
      rw [hto]
      refine ⟨by rw [List.length_eraseIdx, List.length_eraseIdx, hR.1], fun i k v e h1 h2 => ?_⟩
      rw [List.getElem?_eraseIdx] at h1 h2
      split at h1
      · rename_i hi; rw [if_pos hi] at h2; exact hR.2 i k v e h1 h2
      · rename_i hi; rw [if_neg hi] at h2; exact hR.2 (i + 1) k v e h1 h2
  · rename_i hf
    simp at hev
    obtain ⟨rfl, rfl⟩ := hev
    obtain ⟨h1, _⟩ := find_sim 0 hR hf
    have hfk := run_findKey (P := P) (w := w) hku (h1 rfl)
    have hp := post_map (CC := CC) h (clock' := clock) hH hm hB hR
    have hset : H.set id (.map es) = H := by
      apply List.ext_getElem?
      intro i
      by_cases hi : id = i
      · subst hi; rw [List.getElem?_set_self (List.getElem?_eq_some_iff.1 hH).1, hH]
      · rw [List.getElem?_set_ne hi]
    rw [hset] at hp
    refine ⟨.tuple #[], { w with heap := w.heap.setIfInBounds B (.map arr clock) }, _, _, .inl ?_, .s _, hp⟩
    simp only [Builtin.delete_, hts, Sem.run_bind, run_underlying ht, Result.andThen_ok, run_getObj_map hB, hck, hfk, run_setObj_map _ hB, Sem.run_pure, List.getElem?_toArray, List.getElem?_cons_zero, List.getElem?_cons_succ]
  · simp at hev

theorem sim_mapNew (h : HR CC μ Mt w H) (t : TypeId) : OpRes CC μ Mt w H ((do pure (.value (← Instr.makeMap t none)) : Sem Next).run P w) (.mp H.length) (H ++ [.map []]) := by
  refine ⟨.map (some w.heap.size), w.alloc (.map #[] 0), _, _, .inl ?_, .mp _ _ (updM_same _ _ _ _), post_push h (.map #[] 0) (.map []) ⟨rfl, rfl, fun i k v e h => by simp at h⟩ rfl rfl rfl rfl⟩
  simp [Instr.makeMap]
end
end Go.AM
