/-
  make, append.
-/
import Derived.Test.YtmnlagcmpgilaaaAm8
set_option linter.all false
namespace Go.AM
open Go.RowKit
section
variable {CC : Code → ACode → Prop} {μ μ' : Mu} {Mt Mt' : Nat → Prop} {w w' : World} {H H' : Heap} {P : Program}

theorem sim_mkSl (h : HR CC μ Mt w H) {t e : TypeId} {i : TypeInfo} {z : V} {k1 k2 : IntKind} {l c : Int} (ht : P.underlying t = some (.slice e)) (hi : P.info? e = some i) (hz : zeroT P e = some z) (hs : 0 < i.size) (hb : 0 < i.bytes) (hzl : z.cells.length = i.size)
    (h0 : 0 ≤ l) (h1 : l ≤ c) (h2 : c * i.bytes ≤ 2 ^ 47) :
    OpRes CC μ Mt w H ((do pure (.value (← Instr.makeSlice t (.int k1 l) (.int k2 c))) : Sem Next).run P w) (.sl H.length 0 0 l.toNat i.size) (H ++ [.cells 0 (List.replicate l.toNat z.cells).flatten]) := by
  obtain ⟨zv, z1, z2, i', hi', _⟩ := zeroT_run (w := w) hz
  have hzc := vr_cells (μ := μ) (Mt := Mt) (w := w) (ofConst_vr z2) (ofConst_one z2)
  have hzs : zv.cells.size = i.size := by rw [← hzl, hzc.1]; simp
  have hcb : c ≤ c * i.bytes := by
    have : c * 1 ≤ c * (i.bytes : Int) := Int.mul_le_mul_of_nonneg_left (by omega) (by omega)
    omega
  have hc47 : c ≤ 140737488355328 := by simp at h2; omega
  have wl : IntKind.i64.wrap l = l := IntWalk.i64_in _ (by omega)
  have wc : IntKind.i64.wrap c = c := IntWalk.i64_in _ (by omega)
  have hsz : (sizeOf e).run P w = .ok i.size w := run_sizeOf (by simp [sizeT, hi])
  have hcond : ((decide (c < 0) || decide ((i.bytes : Int) * c > 2 ^ 48)) || decide (l < 0) || decide (l > c)) = false := by
    have : (i.bytes : Int) * c ≤ 2 ^ 47 := by rw [Int.mul_comm]; exact h2
    simp
    simp at this
    omega
  have hrows : ∀ arr : Array Value, arr.toList = (List.replicate c.toNat zv.cells.toList).flatten → ((do pure (.value (← Instr.makeSlice t (.int k1 l) (.int k2 c))) : Sem Next).run P w) = .ok (.value (.slice (some ⟨w.heap.size, 0, none⟩) l.toNat c.toNat)) (w.alloc (.cells arr e)) := by
    intro arr harr
    have hinfo : (typeInfo e).run P w = .ok i w := by simp [typeInfo, hi]
    simp only [Instr.makeSlice, Sem.run_bind, run_underlying ht, Result.andThen_ok, asInt, asIntOf, Sem.run_pure, hinfo, wl, wc, Sem.run_ite, hcond, Bool.false_eq_true, if_false, run_askRoom, hsz]
    by_cases hn : c.toNat * i.size = 0
    · have hc0 : c.toNat = 0 := by rcases Nat.mul_eq_zero.1 hn with h | h <;> omega
      have harr0 : arr = #[] := by
        apply Array.ext'
        rw [harr, hc0]; rfl
      have em : ∀ f : Nat → Value, Array.map f (Array.range 0) = #[] := fun f => by apply Array.eq_empty_of_size_eq_zero; simp
      simp only [hn, if_true, Sem.run_pure, Result.andThen_ok, em, newRow, Sem.run_bind, run_newObj, harr0]
      rfl
    · have harr1 : Array.map (fun x => zv.cells[x % zv.cells.size]!) (Array.range (c.toNat * i.size)) = arr := by
        apply Array.ext'
        rw [harr, ← replicate_flat zv.cells.toList c.toNat (by simp; omega)]
        simp [hzs]
      simp only [hn, if_false, Sem.run_bind, z1, Sem.run_pure, Result.andThen_ok, newRow, run_newObj, harr1]
      rfl
  have hlc : l.toNat ≤ c.toNat := by omega
  have hvr : VRs μ Mt w (List.replicate l.toNat z.cells).flatten (List.replicate l.toNat zv.cells.toList).flatten := hzc.flatten_replicate _
  have hsplit : (List.replicate c.toNat zv.cells.toList).flatten = (List.replicate l.toNat zv.cells.toList).flatten ++ (List.replicate (c.toNat - l.toNat) zv.cells.toList).flatten := by
    rw [← List.flatten_append, List.replicate_append_replicate]
    congr 2; omega
  have hll : (List.replicate l.toNat zv.cells.toList).flatten.length = l.toNat * i.size := by simp [hzs]
  have hcl : (List.replicate c.toNat zv.cells.toList).flatten.length = c.toNat * i.size := by simp [hzs]
  have hob : ObR CC μ Mt w (.cells 0 (List.replicate l.toNat z.cells).flatten) 0 (.cells (List.replicate c.toNat zv.cells.toList).flatten.toArray e (0, 0)) := by
    refine ⟨rfl, ?_, fun j a v ha hv => ?_⟩
    · rw [List.size_toArray, hvr.1, hll, hcl, Nat.zero_add]; exact Nat.mul_le_mul_right _ hlc
    · have hj : j < (List.replicate l.toNat zv.cells.toList).flatten.length := by rw [← hvr.1]; exact (List.getElem?_eq_some_iff.1 ha).1
      rw [Nat.zero_add, List.getElem?_toArray, hsplit, List.getElem?_append_left hj] at hv
      exact hvr.2 j a v ha hv
  refine ⟨_, _, _, _, .inl (hrows (List.replicate c.toNat zv.cells.toList).flatten.toArray (by simp)), ?_, post_push h _ _ hob rfl rfl rfl rfl⟩
  refine .sl H.length 0 0 l.toNat i.size w.heap.size 0 c.toNat _ e (updM_same _ _ _ _) (heap_push_new (w := w) rfl) hlc ?_
  rw [List.size_toArray, hcl]; simp

/-! ### What is appended -/

theorem flat_get {sz : Nat} (h0 : 0 < sz) : ∀ {es : List (List V)}, (∀ el ∈ es, el.length = sz) → ∀ i, es.flatten[i]? = (es[i / sz]?).bind (·[i % sz]?) := by
  intro es
  induction es with
  | nil => intro _ i; simp
  | cons el es ih =>
    intro hz i
    have hel := hz el (by simp)
    rw [List.flatten_cons]
    by_cases hi : i < sz
    · rw [List.getElem?_append_left (by omega), Nat.div_eq_of_lt hi, Nat.mod_eq_of_lt hi]; rfl
    · rw [List.getElem?_append_right (by omega), ih (fun e he => hz e (by simp [he])), hel]
      have e1 : i / sz = (i - sz) / sz + 1 := by
        rw [Nat.div_eq_sub_div h0 (by omega)]
      have e2 : i % sz = (i - sz) % sz := Nat.mod_eq_sub_mod (by omega)
      rw [e1, e2]; rfl

theorem psl_place {es : List (List V)} {sz : Nat} {c : Value} (h0 : 0 < sz) (h : VR μ Mt w (.psl es sz) c) : ∃ a cap, c = .slice (some a) es.length cap ∧ es.flatten.length = es.length * sz ∧ PlaceR μ Mt w es.flatten a := by
  cases h with
  | psl _ _ B o cap arr e fr hB hM hc hz hs hv =>
    have hz' : ∀ el ∈ es, el.length = sz := fun el hel => by
      obtain ⟨i, hi, rfl⟩ := List.getElem_of_mem hel
      exact hz i _ (List.getElem?_eq_getElem hi)
    have hlen : es.flatten.length = es.length * sz := by
      clear hv hs hc hz
      induction es with
      | nil => simp
      | cons e es ih => rw [List.flatten_cons, List.length_append, ih (fun x hx => hz' x (by simp [hx])), hz' e (by simp), List.length_cons, Nat.add_mul]; omega
    refine ⟨_, cap, rfl, hlen, placeR_of_row hB (by omega) (fun i a b ha hb => ?_)⟩
    rw [flat_get h0 hz'] at ha
    rw [Option.bind_eq_some_iff] at ha
    obtain ⟨el, hel, ha⟩ := ha
    refine (hv _ el _ a b hel ha ?_).vr
    rw [← hb]
    congr 1
    have := Nat.div_add_mod i sz
    rw [Nat.mul_comm] at this
    omega
  | psl0 _ cap a => exact ⟨a, cap, rfl, by simp, [], VRs.nil, fun j v hv => by simp at hv⟩

theorem run_firstCells_place {sz m cap : Nat} {a : Addr} {vs : List Value} (hl : vs.length = m * sz) (hc : ∀ (j : Nat) (v : Value), vs[j]? = some v → w.cell? (a.add j) = some v) {w'' : World} (hw : w''.heap = w.heap) :
    (Builtin.firstCells sz m (.slice (some a) m cap)).run P w'' = .ok vs.toArray w'' :=
  run_firstCells_some (P := P) w'' sz m a m cap vs hl (fun j v hv => by rw [← hc j v hv]; simp [World.cell?, hw])

theorem elems_sim (h : HR CC μ Mt w H) {sz m : Nat} {x : V} {xs : List V} {c : Value} (h0 : 0 < sz) (hx : VR μ Mt w x c) (he : elems H sz x = some (m, xs)) :
    xs.length = m * sz ∧ ∃ vs : List Value, VRs μ Mt w xs vs ∧ ∀ w'' : World, w''.heap = w.heap → (Builtin.lenOf c).run P w'' = .ok m w'' ∧ (Builtin.firstCells sz m c).run P w'' = .ok vs.toArray w'' := by
  unfold elems at he
  dsimp only at he
  split at he
  · cases he
    rw [vr_s hx]
    exact ⟨by simp, [], VRs.nil, fun w'' _ => ⟨rfl, rfl⟩⟩
  · rename_i b
    split at he
    · rename_i hsz
      subst hsz
      cases he
      rw [vr_s hx]
      refine ⟨by simp, b.data.toList.map fun x => .int .u8 x.toNat, ⟨by simp, fun i p q hp hq => ?_⟩, fun w'' _ => ⟨rfl, ?_⟩⟩
      · simp at hp hq
        obtain ⟨u, hu, rfl⟩ := hp
        obtain ⟨u', hu', rfl⟩ := hq
        rw [hu] at hu'; cases hu'
        exact .s _
      · simp only [Builtin.firstCells, Sem.run_pure]
        congr 1
        apply Array.ext'
        have : b.extract 0 b.size = b := by
          simp
        rw [this]
        simp
    · simp at he
  · cases he
    cases hx with
    | esl a => exact ⟨by simp, [], VRs.nil, fun w'' _ => ⟨rfl, run_firstCells_place (w := w) (by simp) (fun j v hv => by simp at hv) ‹_›⟩⟩
  · rename_i es sz'
    split at he
    · rename_i hsz
      subst hsz
      cases he
      obtain ⟨a, cap, rfl, hl, vs, hv, hc⟩ := psl_place h0 hx
      exact ⟨hl, vs, hv, fun w'' hw => ⟨rfl, run_firstCells_place (by rw [← hv.1, hl]) hc hw⟩⟩
    · simp at he
  · rename_i id g off len sz'
    split at he
    · rename_i hsz
      subst hsz
      split at he
      · rename_i cs hcs
        split at he
        · rename_i hlen
          cases he
          cases hx with
          | sl _ _ _ _ _ B b cap arr e hm hB hcap hsz =>
            obtain ⟨vs, hv, hc⟩ := h.place hcs hm hlen
            exact ⟨hlen, vs, hv, fun w'' hw => ⟨rfl, run_firstCells_place (by rw [← hv.1, hlen]) hc hw⟩⟩
          | sl0 _ _ _ _ B b a hm =>
            refine ⟨by simp, [], ⟨by simp, fun i a b h => by simp at h⟩, fun w'' hw => ⟨rfl, run_firstCells_place (w := w) (by simp) (fun j v hv => by simp at hv) hw⟩⟩
        · simp at he
      · simp at he
    · simp at he
  · simp at he

/-! ### append -/

theorem run_grow {ts : Array TypeId} {ty t t' e : TypeId} {i : TypeInfo} {zv : Value} {base : Option Addr} {sLen sCap m : Nat} {c : Value} {olds vs : Array Value}
    (h0 : ts[0]? = some t) (h1 : ts[1]? = some t') (ht : P.underlying t = some (.slice e)) (ht' : (∃ e', P.underlying t' = some (.slice e')) ∨ P.underlying t' = some .string) (hi : P.info? e = some i) (hz : i.zero = some zv) (hb : 0 < i.bytes)
    (hlen : (Builtin.lenOf c).run P w = .ok m w) (hold : (Builtin.firstCells i.size sLen (.slice base sLen sCap)).run P w.drew = .ok olds w.drew) (hnew : (Builtin.firstCells i.size m c).run P w.drew = .ok vs w.drew)
    (hg : sCap < sLen + m) (hbytes : (sLen + m) * i.bytes ≤ 140737488355328) :
    (Builtin.append_ ts ty #[.slice base sLen sCap, c]).run P w =
      .ok (.slice (some ⟨w.heap.size, 0, none⟩) (sLen + m) (grownCap w (sLen + m) sCap e)) (w.drew.alloc (.cells (olds ++ vs ++ Builtin.zeroCells zv.cells (grownCap w (sLen + m) sCap e - (sLen + m))) e)) := by
  have hn : ¬ (sLen + m ≤ sCap) := by omega
  have hfit := growslice_fits (bytes := i.bytes) hg hbytes
  have h48' : ¬ (281474976710656 < Builtin.nextslicecap (sLen + m) sCap * i.bytes) := by omega
  have hb0 : ¬ (i.bytes = 0) := by omega
  rcases ht' with ⟨e', ht'⟩ | ht' <;>
    simp [Builtin.append_, run_underlying ht, run_underlying ht', h0, h1, sizeOf, typeInfo, zeroValue, hi, hz, hlen, hn, h48', hb0, Question.forced, hold, hnew, newRow, grownCap]

theorem run_room {ts : Array TypeId} {ty t t' e : TypeId} {i : TypeInfo} {base : Option Addr} {sLen sCap m : Nat} {c : Value} {vs : Array Value}
    (h0 : ts[0]? = some t) (h1 : ts[1]? = some t') (ht : P.underlying t = some (.slice e)) (ht' : (∃ e', P.underlying t' = some (.slice e')) ∨ P.underlying t' = some .string) (hi : P.info? e = some i)
    (hlen : (Builtin.lenOf c).run P w = .ok m w) (hnew : (Builtin.firstCells i.size m c).run P w = .ok vs w) (hr : sLen + m ≤ sCap)
    (hst : ∀ a, base = some a → (storeCells (a.add (sLen * i.size)) vs.toList).run P w = .ok () w') (hst' : base = none → w' = w) :
    (Builtin.append_ ts ty #[.slice base sLen sCap, c]).run P w = .ok (.slice base (sLen + m) sCap) w' := by
  cases base with
  | none =>
    rw [hst' rfl]
    rcases ht' with ⟨e', ht'⟩ | ht' <;>
      simp [Builtin.append_, run_underlying ht, run_underlying ht', h0, h1, sizeOf, typeInfo, hi, hlen, hr, hnew]
  | some a =>
    have := hst a rfl
    rcases ht' with ⟨e', ht'⟩ | ht' <;>
      simp [Builtin.append_, run_underlying ht, run_underlying ht', h0, h1, sizeOf, typeInfo, hi, hlen, hr, hnew, this]
end
end Go.AM
