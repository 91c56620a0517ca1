/- Texts of the proof: AmV, AmR, UpdDE, UpdDS2, UpdDR1. -/
import Derived.Test.YtlclbbieacjmfaaDoorP0
import Derived.Test.YtlclbbieacjmfaaDoorP1
import Derived.Test.YtlclbbieacjmfaaDoorP2
import Derived.Test.YtlclbbieacjmfaaDoorP3
import Derived.ProofKit
import Derived.OpenShut
import Derived.ChangeArms
import Derived.FnData
import Derived.DataReads
import Derived.ChangeOld
import Derived.LaidMore
import Derived.Stop.Joined
import Derived.SevenTiedAt
import Derived.Test.YtlclbbieacjmfaaDoorRows
import Derived.Test.YtlclbbieacjmfaaDoorCards
import Derived.Test.YtlclbbieacjmfaaDoorTie
set_option linter.all false
namespace Go.AM
open Go.RowKit
theorem tab_laid {P : Program} {W : World} {name : String} {g : Nat} {t e : TypeId} {tab : List Nat} (hg : P.globalNamed name = some g) (ht : (P.globals[g]?).map (·.type) = some t) (hu : P.underlying t = some (.array tab.length e)) (he : P.underlying e = some (.int .u8)) (hc : P.cellsOf e = 1) (h0 : 0 < tab.length)
    (h : laidMet P [(name, .agg (tab.map fun n => .lit (.int .u8 (n : Nat))))] W) : ∃ o : Array Value × TypeId × Nat × Nat, W.heap[g]? = some (.cells o.1 o.2.1 o.2.2) ∧ ∀ j, j < tab.length → o.1[j]? = some (.int .u8 ((tab.getD j 0 : Nat) : Int)) := by
  obtain ⟨ps, ⟨g0, t0, cs0, f0, p0, q0, hg0, ht0, hv0, hd0, _, _⟩, _, _⟩ := h
  obtain rfl := Option.some.inj (hg.symm.trans hg0)
  obtain rfl := Option.some.inj (ht.symm.trans ht0)
  have hcell := fun i => World.var?_cell hg hv0 i
  obtain ⟨xs, m1, rfl, hx1, hlen, hn3, hel⟩ := DataW.trod_array hu hd0
  simp only [Prod.mk.injEq, DataW.agg.injEq] at hx1
  rw [hc] at hel
  have key : ∀ j, j < tab.length → cs0[j]? = some (.int .u8 ((tab.getD j 0 : Nat) : Int)) := by
    intro j hj
    have h1 := hel j hj
    have hxj : xs[j]? = some xs[j] := List.getElem?_eq_getElem (by omega)
    rw [hxj] at h1
    obtain ⟨k, e1, e2, _⟩ := DataW.trod_int he h1
    have e3 : (tab.map fun n => (DataW.lit (.int .u8 (n : Nat)) : DataW Unit))[j]? = (xs.map (·.1))[j]? := by rw [hx1.1]
    rw [List.getElem?_map, List.getElem?_map, hxj, List.getElem?_eq_getElem hj, Option.map_some, Option.map_some, e2] at e3
    have hk : k = (tab[j] : Nat) := by simpa using e3.symm
    have e4 : cs0.toList[j]? = some (.int .u8 k) := by
      have : ((cs0.toList.drop (j * 1)).take 1)[0]? = some (.int .u8 k) := by rw [e1]; rfl
      rw [List.getElem?_take_of_lt (by omega), List.getElem?_drop] at this
      simpa using this
    rw [Array.getElem?_toList] at e4
    rw [e4, hk]
    simp [List.getD, hj]
  have hc0 := hcell 0
  rw [key 0 h0] at hc0
  simp only [World.cell?] at hc0
  cases hh : W.heap[g]? with
  | none => rw [hh] at hc0; cases hc0
  | some ob =>
    cases ob with
    | cells arr ty fr =>
      refine ⟨(arr, ty, fr), rfl, fun j hj => ?_⟩
      have := hcell j
      rw [key j hj] at this
      simp only [World.cell?, hh] at this
      simpa using this
    | _ => rw [hh] at hc0; cases hc0
end Go.AM
namespace Go.AM
open Go.RowKit
inductive Ty where
  | int (k : IntKind) | bool | str
  | sl (e : Ty)
  | st (fs : List Ty)
  deriving Inhabited
mutual
def Ty.width : Ty → Nat
  | .int _ => 1
  | .bool => 1
  | .str => 1
  | .sl _ => 1
  | .st fs => widths fs
def widths : List Ty → Nat
  | [] => 0
  | f :: fs => f.width + widths fs
end
mutual
def tyOk (P : Program) : Nat → Ty → TypeId → Bool
  | 0, _, _ => false
  | n + 1, ty, t => match ty, P.underlying t with
    | .int k, some (.int k') => k == k'
    | .bool, some .bool => true
    | .str, some .string => true
    | .sl e, some (.slice e') => tyOk P n e e' && P.cellsOf e' == e.width && decide (0 < e.width)
    | .st fs, some (.struct gs) => P.cellsOf t == widths fs && tysOk P n 0 fs gs.toList
    | _, _ => false
def tysOk (P : Program) : Nat → Nat → List Ty → List Field → Bool
  | 0, _, _, _ => false
  | n + 1, off, fs, gs => match fs, gs with
    | [], [] => true
    | f :: fs, g :: gs => g.offset == off && P.cellsOf g.type == f.width && tyOk P n f g.type && tysOk P n (off + f.width) fs gs
    | _, _ => false
end
mutual
def IsV : Ty → List V → Prop
  | .int k, cs => ∃ n, cs = [.s (.int k n)] ∧ k.min ≤ n ∧ n ≤ k.max
  | .bool, cs => ∃ b, cs = [.s (.bool b)]
  | .str, cs => ∃ b, cs = [.s (.string b)] ∧ b.size ≤ maxLen
  | .sl e, cs => cs = [nilS] ∨ ∃ es : List (List V), cs = [.psl es e.width] ∧ es.length ≤ maxLen ∧ ∀ x ∈ es, IsV e x
  | .st fs, cs => IsVs fs cs
def IsVs : List Ty → List V → Prop
  | [], cs => cs = []
  | f :: fs, cs => ∃ a b, cs = a ++ b ∧ IsV f a ∧ IsVs fs b
end
mutual
theorem IsV.len : ∀ (t : Ty) {cs : List V}, IsV t cs → cs.length = t.width
  | .int _, cs, h => by obtain ⟨n, rfl, _⟩ := h; rfl
  | .bool, cs, h => by obtain ⟨n, rfl⟩ := h; rfl
  | .str, cs, h => by obtain ⟨n, rfl, _⟩ := h; rfl
  | .sl e, cs, h => by rcases h with rfl | ⟨es, rfl, _⟩ <;> rfl
  | .st fs, cs, h => IsVs.len fs h
theorem IsVs.len : ∀ (fs : List Ty) {cs : List V}, IsVs fs cs → cs.length = widths fs
  | [], cs, h => by cases h; rfl
  | f :: fs, cs, h => by
    obtain ⟨a, b, rfl, h1, h2⟩ := h
    rw [List.length_append, IsV.len f h1, IsVs.len fs h2]; rfl
end
abbrev PRs (w : World) (vs : List V) (cs : List Value) : Prop := vs.length = cs.length ∧ ∀ (i : Nat) (a : V) (b : Value), vs[i]? = some a → cs[i]? = some b → PR (fun _ => False) w a b
theorem PRs.app {w : World} {a b : List V} {c d : List Value} (h : PRs w a c) (k : PRs w b d) : PRs w (a ++ b) (c ++ d) := by
  refine ⟨by simp [h.1, k.1], fun i x y hx hy => ?_⟩
  by_cases hi : i < a.length
  · rw [List.getElem?_append_left hi] at hx
    rw [List.getElem?_append_left (by rw [← h.1]; exact hi)] at hy
    exact h.2 i x y hx hy
  · rw [List.getElem?_append_right (by omega)] at hx
    rw [List.getElem?_append_right (by rw [← h.1]; omega), ← h.1] at hy
    exact k.2 _ x y hx hy
theorem PRs.one {w : World} {a : V} {b : Value} (h : PR (fun _ => False) w a b) : PRs w [a] [b] := ⟨rfl, fun i x y hx hy => by
  cases i with
  | zero => simp at hx hy; rw [← hx, ← hy]; exact h
  | succ i => simp at hx⟩
theorem PRs.vrs {w : World} {vs : List V} {cs : List Value} (h : PRs w vs cs) : VRs (fun _ _ => none) (fun _ => False) w vs cs := ⟨h.1, fun i a b ha hb => (h.2 i a b ha hb).vr⟩
theorem mapM_fwd {α β : Type} {f : α → Option β} {l : List α} {us : List β} (h : l.mapM f = some us) : us.length = l.length ∧ ∀ (i : Nat) (v : α), l[i]? = some v → ∃ u, us[i]? = some u ∧ f v = some u := by
  obtain ⟨h1, h2⟩ := mapM_get2 h
  refine ⟨h1, fun i v hv => ?_⟩
  have hi : i < us.length := by rw [h1]; exact (List.getElem?_eq_some_iff.1 hv).1
  exact ⟨us[i], List.getElem?_eq_getElem hi, h2 i v _ hv (List.getElem?_eq_getElem hi)⟩
section
variable {H : Type} {enc : TypeId × Value → H} {P : Program} {w : World} {base : Nat} {sp : Nat → Bool} {held : Bool}
theorem add_block (a : Addr) (j : Nat) : (a.add j).block = a.block := by unfold Addr.add; split <;> rfl
theorem add_off {a : Addr} (h : a.spot = none) (j : Nat) : (a.add j).off = a.off + j := by
  unfold Addr.add
  split
  · rename_i e; subst e; rfl
  · rfl
theorem cells_row {a : Addr} {n : Nat} {cs : List Value} (h : w.cells? base a n = some cs) (hn : 0 < n) : ∃ arr e fr, w.heap[a.block]? = some (.cells arr e fr) ∧ a.spot = none ∧ cs.length = n ∧ a.off + n ≤ arr.size ∧ ∀ j, j < n → cs[j]? = arr[a.off + j]? := by
  unfold World.cells? at h
  split at h
  · obtain ⟨h1, h2⟩ := mapM_fwd h
    simp only [List.length_range] at h1
    have key : ∀ j, j < n → ∃ u, cs[j]? = some u ∧ w.cell? (a.add j) = some u := fun j hj => h2 j j (by simp [hj])
    obtain ⟨u0, _, hc0⟩ := key 0 hn
    unfold World.cell? at hc0
    split at hc0
    · rename_i c e fr hh
      have hbl : ∀ j, (a.add j).block = a.block := fun j => add_block a j
      rw [hbl] at hh
      split at hc0
      · cases hc0
      · rename_i hsp
        have hsp : a.spot = none := by
          cases hs : a.spot with
          | none => rfl
          | some x => exact absurd (by show (a.add 0).spot.isSome = true; simp [Addr.add, hs]) hsp
        have all : ∀ j, j < n → cs[j]? = c[a.off + j]? := by
          intro j hj
          obtain ⟨u, hu, hc⟩ := key j hj
          unfold World.cell? at hc
          rw [hbl, hh] at hc
          simp only [] at hc
          split at hc
          · cases hc
          · rw [hu]
            have : (a.add j).off = a.off + j := add_off hsp j
            rw [← this]; exact hc.symm
        refine ⟨c, e, fr, hh, hsp, h1, ?_, all⟩
        have hl := all (n - 1) (by omega)
        have : cs[n - 1]? = some cs[n - 1] := List.getElem?_eq_getElem (by omega)
        rw [this] at hl
        have := (Array.getElem?_eq_some_iff.1 hl.symm).1
        omega
    · cases hc0
  · cases h
theorem tyOk_int {n : Nat} {k : IntKind} {t : TypeId} (h : tyOk P n (.int k) t = true) : P.underlying t = some (.int k) := by
  cases n with
  | zero => simp [tyOk] at h
  | succ n =>
    simp only [tyOk] at h
    split at h <;> simp_all
theorem tyOk_bool {n : Nat} {t : TypeId} (h : tyOk P n .bool t = true) : P.underlying t = some .bool := by
  cases n with
  | zero => simp [tyOk] at h
  | succ n =>
    simp only [tyOk] at h
    split at h <;> simp_all
theorem tyOk_str {n : Nat} {t : TypeId} (h : tyOk P n .str t = true) : P.underlying t = some .string := by
  cases n with
  | zero => simp [tyOk] at h
  | succ n =>
    simp only [tyOk] at h
    split at h <;> simp_all
theorem tyOk_sl {n : Nat} {e : Ty} {t : TypeId} (h : tyOk P n (.sl e) t = true) : ∃ m e', P.underlying t = some (.slice e') ∧ tyOk P m e e' = true ∧ P.cellsOf e' = e.width ∧ 0 < e.width := by
  cases n with
  | zero => simp [tyOk] at h
  | succ n =>
    simp only [tyOk] at h
    split at h <;> simp_all
    exact ⟨n, h.1.1⟩
theorem tyOk_st {n : Nat} {fs : List Ty} {t : TypeId} (h : tyOk P n (.st fs) t = true) : ∃ m gs, P.underlying t = some (.struct gs) ∧ P.cellsOf t = widths fs ∧ tysOk P m 0 fs gs.toList = true := by
  cases n with
  | zero => simp [tyOk] at h
  | succ n =>
    simp only [tyOk] at h
    split at h <;> simp_all
    exact ⟨n, h.2⟩
theorem read_ty : ∀ (fuel n : Nat) (ty : Ty) (t : TypeId) (cs : List Value) (x : DataW H × List MemPlace), tyOk P n ty t = true → DataW.trod enc P w base sp held fuel t cs = some x → ∃ vs, IsV ty vs ∧ PRs w vs cs := by
  intro fuel
  induction fuel with
  | zero => intro n ty t cs x _ h; simp [DataW.trod] at h
  | succ fuel ih =>
    intro n ty t cs x ht h
    cases ty with
    | int k =>
      obtain ⟨m, rfl, _, hw⟩ := DataW.trod_int (tyOk_int ht) h
      simp only [Lit.wf, Bool.and_eq_true, decide_eq_true_eq] at hw
      exact ⟨[.s (.int k m)], ⟨m, rfl, hw.1, hw.2⟩, PRs.one (.s _)⟩
    | bool =>
      obtain ⟨b, rfl, _⟩ := DataW.trod_bool (tyOk_bool ht) h
      exact ⟨[.s (.bool b)], ⟨b, rfl⟩, PRs.one (.s _)⟩
    | str =>
      obtain ⟨b, rfl, _, hb⟩ := DataW.trod_string (tyOk_str ht) h
      exact ⟨[.s (.string b)], ⟨b, rfl, hb⟩, PRs.one (.s _)⟩
    | sl e =>
      obtain ⟨m, e', hu, he, hw, h0⟩ := tyOk_sl ht
      rcases DataW.trod_slice hu h with ⟨rfl, _⟩ | ⟨a, len, cap, elems, rest, n2, hn, rfl, _, hb, hlc, hcm, hel, hall, _⟩
      · exact ⟨[nilS], .inl rfl, PRs.one (.s _)⟩
      · have hn2 : n2 = fuel := by omega
        subst hn2
        rw [hw] at hall
        by_cases hl : len = 0
        · subst hl
          exact ⟨[.psl [] e.width], .inr ⟨[], rfl, Nat.zero_le _, fun x hx => by cases hx⟩, PRs.one (.psl0 _ _ _)⟩
        ·
          have one : ∀ i, i < len → ∃ cs vs, w.cells? base (a.add (i * e.width)) e.width = some cs ∧ IsV e vs ∧ PRs w vs cs := by
            intro i hi
            have hh := hall i hi
            have : elems[i]? = some elems[i] := List.getElem?_eq_getElem (by omega)
            rw [this, Option.bind_eq_some_iff] at hh
            obtain ⟨cs, h1, h2⟩ := hh
            obtain ⟨vs, h3, h4⟩ := ih m e e' cs _ he h2
            exact ⟨cs, vs, h1, h3, h4⟩
          obtain ⟨c0, _, hc0, _, _⟩ := one 0 (by omega)
          rw [Nat.zero_mul] at hc0
          have ha0 : a.add 0 = a := by simp [Addr.add]
          rw [ha0] at hc0
          obtain ⟨arr, el, fr, hB, hsp, _, _, _⟩ := cells_row hc0 h0
          have pos : ∀ i, i < len → ∃ vs, IsV e vs ∧ a.off + i * e.width + e.width ≤ arr.size ∧ ∀ (j : Nat) (x : V) (y : Value), vs[j]? = some x → arr[a.off + i * e.width + j]? = some y → PR (fun _ => False) w x y := by
            intro i hi
            obtain ⟨cs, vs, h1, h2, h3⟩ := one i hi
            obtain ⟨arr', el', fr', hB', _, hcl, hsz, hcj⟩ := cells_row h1 h0
            rw [add_block, hB] at hB'
            cases hB'
            rw [add_off hsp] at hsz hcj
            refine ⟨vs, h2, hsz, fun j x y hx hy => ?_⟩
            have hj : j < e.width := by rw [← h2.len]; exact (List.getElem?_eq_some_iff.1 hx).1
            exact h3.2 j x y hx (by rw [hcj j hj]; exact hy)
          obtain ⟨es, he1, he2⟩ : ∃ es : List (List V), es.length = len ∧ ∀ i vs, es[i]? = some vs → IsV e vs ∧ a.off + i * e.width + e.width ≤ arr.size ∧ ∀ (j : Nat) (x : V) (y : Value), vs[j]? = some x → arr[a.off + i * e.width + j]? = some y → PR (fun _ => False) w x y := by
            have : ∀ k, k ≤ len → ∃ es : List (List V), es.length = k ∧ ∀ i vs, es[i]? = some vs → IsV e vs ∧ a.off + i * e.width + e.width ≤ arr.size ∧ ∀ (j : Nat) (x : V) (y : Value), vs[j]? = some x → arr[a.off + i * e.width + j]? = some y → PR (fun _ => False) w x y := by
              intro k
              induction k with
              | zero => intro _; exact ⟨[], rfl, fun i vs h => by simp at h⟩
              | succ k ihk =>
                intro hk
                obtain ⟨es, h1, h2⟩ := ihk (by omega)
                obtain ⟨vs, h3⟩ := pos k (by omega)
                refine ⟨es ++ [vs], by simp [h1], fun i us hi => ?_⟩
                by_cases c : i < es.length
                · rw [List.getElem?_append_left c] at hi; exact h2 i us hi
                · rw [List.getElem?_append_right (by omega)] at hi
                  have : i - es.length = 0 := by
                    have := (List.getElem?_eq_some_iff.1 hi).1
                    simp at this; omega
                  rw [this] at hi
                  simp at hi
                  have hik : i = k := by omega
                  subst hik; subst hi
                  exact h3
            exact this len (Nat.le_refl _)
          refine ⟨[.psl es e.width], .inr ⟨es, rfl, by omega, fun x hx => ?_⟩, PRs.one ?_⟩
          · obtain ⟨i, hi⟩ := List.mem_iff_getElem?.1 hx
            exact (he2 i x hi).1
          · have hslice : Value.slice (some a) len cap = .slice (some ⟨a.block, a.off, none⟩) es.length cap := by
              rw [he1]
              congr 2
              cases a; simp at hsp; subst hsp; rfl
            rw [hslice]
            refine .psl es e.width a.block a.off cap arr el fr hB (fun h => h) (by omega) (fun i vs hi => (he2 i vs hi).1.len) ?_ (fun i vs j x y hi hx hy => (he2 i vs hi).2.2 j x y hx hy)
            have hlast := (he2 (len - 1) es[len - 1] (List.getElem?_eq_getElem (by omega))).2.1
            rw [he1]
            have : len * e.width = (len - 1) * e.width + e.width := by
              obtain ⟨k, rfl⟩ : ∃ k, len = k + 1 := ⟨len - 1, by omega⟩
              rw [Nat.add_sub_cancel, Nat.add_mul, Nat.one_mul]
            omega
    | st fs =>
      obtain ⟨m, gs, hu, hw, hts⟩ := tyOk_st ht
      obtain ⟨xs, n2, hn, _, hcl, hxl, hall⟩ := DataW.trod_struct hu h
      have hn2 : n2 = fuel := by omega
      subst hn2
      have key : ∀ (fs : List Ty) (m off : Nat) (gl : List Field), tysOk P m off fs gl = true → (∀ g ∈ gl, ∃ y, DataW.trod enc P w base sp held n2 g.type ((cs.drop g.offset).take (P.cellsOf g.type)) = some y) → off + widths fs = cs.length → ∃ vs, IsVs fs vs ∧ PRs w vs (cs.drop off) := by
        intro fs
        induction fs with
        | nil =>
          intro m off gl _ _ ho
          refine ⟨[], rfl, ?_⟩
          rw [List.drop_eq_nil_of_le (by simp [widths] at ho; omega)]
          exact ⟨rfl, fun i a b h => by simp at h⟩
        | cons f fs ihf =>
          intro m off gl htk hg ho
          cases m with
          | zero => simp [tysOk] at htk
          | succ m =>
            cases gl with
            | nil => simp [tysOk] at htk
            | cons g gl =>
              simp only [tysOk, Bool.and_eq_true, beq_iff_eq] at htk
              obtain ⟨⟨⟨h1, h2⟩, h3⟩, h4⟩ := htk
              obtain ⟨y, hy⟩ := hg g List.mem_cons_self
              obtain ⟨va, ha1, ha2⟩ := ih m f g.type _ y h3 hy
              obtain ⟨vb, hb1, hb2⟩ := ihf m (off + f.width) gl h4 (fun g hg' => hg g (List.mem_cons_of_mem _ hg')) (by simp only [widths] at ho; omega)
              refine ⟨va ++ vb, ⟨va, vb, rfl, ha1, hb1⟩, ?_⟩
              rw [h1, h2] at ha2
              have : cs.drop off = (cs.drop off).take f.width ++ cs.drop (off + f.width) := by
                rw [← List.drop_drop, List.take_append_drop]
              rw [this]
              exact ha2.app hb2
      obtain ⟨vs, h1, h2⟩ := key fs m 0 gs.toList hts (fun g hg => by
        obtain ⟨i, hi⟩ := List.mem_iff_getElem?.1 hg
        have hi' : gs[i]? = some g := by simpa using hi
        have h3 := hall i g hi'
        have hlt := (Array.getElem?_eq_some_iff.1 hi').1
        exact ⟨xs[i]'(by omega), by rw [h3]; exact List.getElem?_eq_getElem (by omega)⟩) (by omega)
      exact ⟨vs, h1, by simpa using h2⟩
def argV : Ty → List V → V
  | .st _, vs => .agg vs
  | _, [v] => v
  | _, _ => .unk
theorem read_arg {n : Nat} {ty : Ty} {t : TypeId} {v : Value} {d : DataW H} {ps : List MemPlace} (ht : tyOk P n ty t = true) (hf : (match ty with | .st _ => ∃ vs, v = .agg vs | _ => v.cells.toList = [v])) (h : DataW.Trod enc P w base sp held t v d ps) :
    ∃ vs, IsV ty vs ∧ VR (fun _ _ => none) (fun _ => False) w (argV ty vs) v := by
  obtain ⟨fuel, h⟩ := h
  obtain ⟨vs, h1, h2⟩ := read_ty fuel n ty t _ _ ht h
  refine ⟨vs, h1, ?_⟩
  have one : vs.length = 1 → v.cells.toList = [v] → ∃ x, vs = [x] ∧ VR (fun _ _ => none) (fun _ => False) w x v := by
    intro hl hc
    match vs, hl with
    | [x], _ =>
      rw [hc] at h2
      exact ⟨x, rfl, (h2.2 0 x v rfl rfl).vr⟩
  cases ty with
  | st fs =>
    obtain ⟨us, rfl⟩ := hf
    exact vr_agg_mk (vs := us.toList) h2.vrs
  | _ =>
    obtain ⟨x, rfl, hx⟩ := one h1.len hf
    exact hx
end
end Go.AM
set_option maxRecDepth 100000
namespace Go.Proofs.YtlclbbieacjmfaaDoor
open Go.ChangeShapes Go.WideShapes Go.ChangeAt Go.RowKit Go.AM
theorem mixed : Tryd.prog.follows .mixedOrders = true := by kernel_rfl
theorem sorts (m : Nat) : AnyZI.SortsIn Tryd.prog Tryd.sortedK_ren Fence.wide m :=
  ⟨fun blk off cap ss W hH hblk hsz => callsIn_wide.2 (Any.slices_Sort_int Tryd.sortK blk off cap ss W hH hblk hsz), fun p cap W => callsIn_wide.2 (Any.slices_Sort_int_none Tryd.sortK p cap W)⟩
theorem sorted_prim (fx : Nat → Option (Array Value × TypeId × Nat × Nat)) : FunOk Tryd.prog (PXf fx) k_slices_Sorted_int (.prim (sortedG k_maps_Keys_1)) := by
  refine sorted_ok (kt := 3) (t := 3) (Go.Proofs.enters_of Tryd.func29 (by kernel_rfl) rfl) Tryd.underlying3 ?_
  intro Bm b nn D0 w hBm hm hown hmax hbytes
  refine (callsIn_wide (n := 5)).1 ?_
  have hseq : SeqGives Fence.wide 2 Tryd.prog 34 #[.pointer (some ⟨Bm, 0, none⟩)] encZ (fun ss => ss.Perm (intKeys D0)) (Maps.size D0) w :=
    AnyZI.keys_gives (ρ := Tryd.keysK_ren) { Tryd.keysK with } Fence.wide _ trivial rfl (by omega) Bm b nn D0 w hBm hm hown
  exact AnyZI.sorted_in Tryd.sortedK Fence.wide 5 trivial trivial trivial trivial rfl (by omega) (sorts _) (Go.Proofs.enters_of Tryd.func33 (by kernel_rfl) rfl) 34 #[.pointer (some ⟨Bm, 0, none⟩)] trivial (Go.Proofs.enters_of Tryd.func34 (by kernel_rfl) rfl) _ _ hmax hbytes w hseq
def TabFx (fx : Nat → Option (Array Value × TypeId × Nat × Nat)) : Prop := ∃ o, fx 0 = some o ∧ ∀ j, j < Lib.deBruijn64tab.length → o.1[j]? = some (.int .u8 ((Lib.deBruijn64tab.getD j 0 : Nat) : Int))
theorem tz_prim (fx : Nat → Option (Array Value × TypeId × Nat × Nat)) (h : TabFx fx) : FunOk Tryd.prog (PXf fx) k_math_bits_TrailingZeros64 (.prim tzG) := by
  obtain ⟨⟨arr, rest⟩, h1, h2⟩ := h
  exact tz_ok (g := 0) h1 (Go.Proofs.enters_of Tryd.func22 (by kernel_rfl) rfl) h2 (fun x w hx hT => Any7.bits_TrailingZeros64 Tryd.tzK x hx w (fun _ => hT))
theorem tab_of_laid {W : World} (h : laidMetH Tryd.prog Rows.updateTellsRow.laid W) : ∃ o : Array Value × TypeId × Nat × Nat, W.heap[0]? = some (.cells o.1 o.2.1 o.2.2) ∧ ∀ j, j < Lib.deBruijn64tab.length → o.1[j]? = some (.int .u8 ((Lib.deBruijn64tab.getD j 0 : Nat) : Int)) := by
  rw [MakeChecks.laidMetH_plain _ _ _ (by kernel_rfl)] at h
  exact tab_laid (tab := Lib.deBruijn64tab) (by kernel_rfl) (by kernel_rfl) Tryd.underlying67 Tryd.underlying5 (by kernel_rfl) (by decide) h
theorem tab_fx {o : Array Value × TypeId × Nat × Nat} (h : ∀ j, j < Lib.deBruijn64tab.length → o.1[j]? = some (.int .u8 ((Lib.deBruijn64tab.getD j 0 : Nat) : Int))) : TabFx (fun B => if B = 0 then some o else none) := ⟨o, if_pos rfl, h⟩
theorem fx_heap {W : World} {ob : Array Value × TypeId × Nat × Nat} (h : W.heap[0]? = some (.cells ob.1 ob.2.1 ob.2.2)) {B : Nat} {o : Array Value × TypeId × Nat × Nat} (e : (PXf (fun B => if B = 0 then some ob else none)).fx B = some o) : W.heap[B]? = some (.cells o.1 o.2.1 o.2.2) := by
  have e' : (if B = 0 then some ob else none) = some o := e
  split at e'
  · rename_i hB
    subst hB
    cases e'
    exact h
  · cases e'
theorem door_met (os : Os) (args : Array Value) : laidMetH Tryd.prog Rows.updateTellsRow.laid ((World.doorLaid Tryd.prog 400 os).forCall (fun _ _ => 0) ⟨#[], args, []⟩).memory := by
  rw [MakeChecks.laidMetH_plain _ _ _ (by kernel_rfl)]
  exact laidMet_of_run' 8 (by kernel_rfl) (by kernel_rfl)
theorem CQp_ok (fx : Nat → Option (Array Value × TypeId × Nat × Nat)) (hfx : TabFx fx) : ∀ k c, CQp k = some c → FunOk Tryd.prog (PXf fx) k c := by
  intro k c h
  unfold CQp at h
  split at h
  · rename_i e; subst e; cases h; exact sorted_prim fx
  · exact CQ_ok fx k c h
theorem wakes_prim (fx : Nat → Option (Array Value × TypeId × Nat × Nat)) (hfx : TabFx fx) : FunOk Tryd.prog (PXf fx) k_gnomonlaw25_wakes (.prim (primC (bl true))) := prim_ok mixed (CQp_ok fx hfx) checks_true rfl
theorem wakes_fun {CT : Nat → Option CFun} (hT : CT k_gnomonlaw25_wakes = some (.prim (primC (bl true)))) (base : Nat) (H : Heap) : callW CT (.fn k_gnomonlaw25_wakes [] []) [] base H = some (.s (.bool true), H) := callW_eq (by simp only [evCall, hT]; rfl)
theorem ints_of : ∀ es : List (List V), (∀ x ∈ es, IsV (.int .i64) x) → ∃ l : List Int, es = (l.map iV).map (fun x => [x]) ∧ ∀ x ∈ l, x < 2 ^ 63 := by
  intro es
  induction es with
  | nil => intro _; exact ⟨[], rfl, fun x hx => by cases hx⟩
  | cons e es ih =>
    intro h
    obtain ⟨n, rfl, _, hn⟩ := h e List.mem_cons_self
    obtain ⟨l, rfl, hl⟩ := ih fun x hx => h x (List.mem_cons_of_mem _ hx)
    have hm : IntKind.i64.max = 9223372036854775807 := by decide
    rw [hm] at hn
    refine ⟨n :: l, rfl, fun x hx => ?_⟩
    rcases List.mem_cons.1 hx with rfl | hx
    · omega
    · exact hl x hx
theorem one_wide (l : List V) : Wide1 (.psl (l.map fun x => [x]) 1) := by
  intro e he
  rw [List.mem_map] at he
  obtain ⟨x, _, rfl⟩ := he
  rfl
theorem ints_arg {v : List V} (h : IsV (.sl (.int .i64)) v) : ∃ u, v = [u] ∧ ∃ l : List Int, (∀ H, Rd H u (l.map iV)) ∧ Wide1 u ∧ l.length < 2 ^ 63 ∧ ∀ x ∈ l, x < 2 ^ 63 := by
  rcases h with rfl | ⟨es, rfl, hl, he⟩
  · exact ⟨nilS, rfl, [], fun H => Rd.nil H, trivial, by decide, fun x hx => by cases hx⟩
  · obtain ⟨l, rfl, hx⟩ := ints_of es he
    refine ⟨_, rfl, l, fun H => Rd.psl H _, one_wide _, ?_, hx⟩
    simp only [List.length_map, maxLen] at hl
    omega
theorem int_arg {v : List V} (h : IsV (.int .i64) v) : ∃ z, v = [.s (.int .i64 z)] ∧ z < 2 ^ 63 := by
  obtain ⟨n, rfl, _, hn⟩ := h
  have hm : IntKind.i64.max = 9223372036854775807 := by decide
  rw [hm] at hn
  exact ⟨n, rfl, by omega⟩
end Go.Proofs.YtlclbbieacjmfaaDoor
set_option maxRecDepth 100000
namespace Go.Proofs.YtlclbbieacjmfaaDoor
open Go.AM
abbrev k_gnomonref01_Of : Nat := 8
def s_gnomonref01_Of_r0_k : List Nat := [1, 2, 3, 4, 5, 6, 7, 8, 9, 10, 11, 12, 13, 14, 15, 16, 17]
theorem s_gnomonref01_Of_r0_kT : killV s_gnomonref01_Of_r0_k (startV 18 [] 1) = [] := by kernel_rfl
theorem s_gnomonref01_Of_r0_kA0 : s_gnomonref01_Of_r0_k.contains 0 = false := by kernel_rfl
def s_gnomonref01_Of_r0 : List AOper := [
  ⟨some 2, (.move (.c (.s (.slice none 0 0)))), none⟩]
theorem s_gnomonref01_Of_r0_tale (fr : List V) (H : Heap) : evTale (symAll s_gnomonref01_Of_r0 s_gnomonref01_Of_r0_k []) s_gnomonref01_Of_r0_k fr H = evTale (some (3, [], [])) s_gnomonref01_Of_r0_k fr H := tale_row (items := [.cc (.s (.slice none 0 0))]) (by kernel_rfl) fr H
def s_gnomonref01_Of_r1 : List AOper := [
  ⟨some 3, (.move (.c (.s (.slice none 0 0)))), none⟩]
theorem s_gnomonref01_Of_r1_tale (fr : List V) (H : Heap) : evTale (symAll s_gnomonref01_Of_r1 [] [3]) [] fr H = evTale (some (4, [], [(3, (.c (.s (.slice none 0 0))))])) [] fr H := tale_row (items := [.cc (.s (.slice none 0 0))]) (by kernel_rfl) fr H
def s_gnomonref01_Of_r2 : List AOper := [
  ⟨some 4, (.move (.c (.s (.int .i64 0)))), none⟩]
theorem s_gnomonref01_Of_r2_tale (fr : List V) (H : Heap) : evTale (symAll s_gnomonref01_Of_r2 [] [4]) [] fr H = evTale (some (5, [], [(4, (.c (.s (.int .i64 0))))])) [] fr H := tale_row (items := [.cc (.s (.int .i64 0))]) (by kernel_rfl) fr H
def s_gnomonref01_Of_r3 : List AOper := [
  ⟨some 5, (.move (.t 4)), none⟩,
  ⟨some 6, (.move (.t 0)), none⟩,
  ⟨some 7, (.lenS .s (.t 6)), none⟩,
  ⟨some 8, (.bin .lss (.t 5) (.t 7)), none⟩]
theorem s_gnomonref01_Of_r3_tale (fr : List V) (H : Heap) : evTale (symAll s_gnomonref01_Of_r3 [5, 6, 7] [8]) [5, 6, 7] fr H = evTale (some (9, [], [(8, (.op (.bin .lss (.t 0) (.t 1)) [(.t 4), (.op (.lenS .s (.t 0)) [(.t 0)])]))])) [5, 6, 7] fr H := tale_row (items := [.tt 4, .tt 0, .sub 0 [1] [], .sub 0 [] []]) (by kernel_rfl) fr H
def s_gnomonref01_Of_r4t2 : List AOper := [⟨some 3, (.move (.t 16)), none⟩]
def s_gnomonref01_Of_r4p1 : List AOper := [⟨some 16, (.call (.c (.fn 20 [] [])) [(.t 11), (.t 15)]), none⟩]
def s_gnomonref01_Of_r4t1 : List AOper := s_gnomonref01_Of_r4p1 ++ s_gnomonref01_Of_r4t2
def s_gnomonref01_Of_r4p0 : List AOper := [⟨some 11, (.move (.t 3)), none⟩, ⟨some 12, (.move (.t 0)), none⟩, ⟨some 13, (.move (.t 4)), none⟩, ⟨some 14, (.indexAddr 1 (.t 12) (.t 13)), none⟩, ⟨some 15, (.load false 1 (.t 14)), none⟩]
def s_gnomonref01_Of_r4 : List AOper := s_gnomonref01_Of_r4p0 ++ s_gnomonref01_Of_r4t1
theorem s_gnomonref01_Of_r4p0_tale (fr : List V) (H : Heap) : evTale (symAll s_gnomonref01_Of_r4p0 [3, 8, 12, 13, 14] [11, 15]) [3, 8, 12, 13, 14] fr H = evTale (some (16, [], [(11, (.t 3)), (15, (.op (.load false 1 (.t 0)) [(.op (.indexAddr 1 (.t 0) (.t 1)) [(.t 0), (.t 4)])]))])) [3, 8, 12, 13, 14] fr H := tale_row (items := [.tt 3, .tt 0, .tt 4, .sub 1 [0] [], .sub 1 [] []]) (by kernel_rfl) fr H
theorem s_gnomonref01_Of_r4_x (call : CallF) (it : IterF) (base : Nat) (f : List V) (H : Heap) : evC call it base (.region s_gnomonref01_Of_r4 [] [8, 11, 12, 13, 14, 15, 16]) f H = segC call it base s_gnomonref01_Of_r4t1 [8, 11, 12, 13, 14, 15, 16] H (evTale (symAll s_gnomonref01_Of_r4p0 [3, 8, 12, 13, 14] [11, 15]) [3, 8, 12, 13, 14] f H) (origRow call it base s_gnomonref01_Of_r4 [8, 11, 12, 13, 14, 15, 16] f H) := row_seg call it base s_gnomonref01_Of_r4p0 s_gnomonref01_Of_r4t1 (by kernel_rfl) f H
theorem s_gnomonref01_Of_r4t1_x (call : CallF) (it : IterF) (base : Nat) (f : List V) (H : Heap) : evC call it base (.region s_gnomonref01_Of_r4t1 [] [8, 11, 12, 13, 14, 15, 16]) f H = thenC call it base (.region s_gnomonref01_Of_r4t2 [] [8, 11, 12, 13, 14, 15, 16]) (opsC [] s_gnomonref01_Of_r4p1 [11, 15] (evOps call base [⟨some 16, (.call (.c (.fn 20 [] [])) [(.t 11), (.t 15)]), none⟩] f H)) := (row_op call it base s_gnomonref01_Of_r4p1 s_gnomonref01_Of_r4t2 (kc := [11, 15]) (by kernel_rfl) f H).trans (by rw [row_ops]; rfl)
theorem s_gnomonref01_Of_r4t2_tale (fr : List V) (H : Heap) : evTale (symAll s_gnomonref01_Of_r4t2 [8, 11, 12, 13, 14, 15, 16] [3]) [8, 11, 12, 13, 14, 15, 16] fr H = evTale (some (4, [], [(3, (.t 16))])) [8, 11, 12, 13, 14, 15, 16] fr H := tale_row (items := [.tt 16]) (by kernel_rfl) fr H
theorem s_gnomonref01_Of_r4t2_x (call : CallF) (it : IterF) (base : Nat) (f : List V) (H : Heap) : evC call it base (.region s_gnomonref01_Of_r4t2 [] [8, 11, 12, 13, 14, 15, 16]) f H = segL H (evTale (symAll s_gnomonref01_Of_r4t2 [8, 11, 12, 13, 14, 15, 16] [3]) [8, 11, 12, 13, 14, 15, 16] f H) (origRow call it base s_gnomonref01_Of_r4t2 [8, 11, 12, 13, 14, 15, 16] f H) := row_last call it base _ f H
def s_gnomonref01_Of_r5 : List AOper := [
  ⟨some 9, (.move (.t 4)), none⟩,
  ⟨some 10, (.bin .add (.t 9) (.c (.s (.int .i64 1)))), none⟩,
  ⟨some 4, (.move (.t 10)), none⟩]
theorem s_gnomonref01_Of_r5_tale (fr : List V) (H : Heap) : evTale (symAll s_gnomonref01_Of_r5 [9, 10] [4]) [9, 10] fr H = evTale (some (11, [], [(4, (.op (.bin .add (.t 0) (.c (.s (.int .i64 1)))) [(.t 4), (.c (.s (.int .i64 1)))]))])) [9, 10] fr H := tale_row (items := [.tt 4, .sub 0 [] [], .sub 0 [] []]) (by kernel_rfl) fr H
def s_gnomonref01_Of_l0_b : ACode :=
  (.seq (.seq (.regionE s_gnomonref01_Of_r3 [5, 6, 7] [8])
  (.cond (.t 8)
  .skip
  (.exit 0)))
  (.seq (.block 1
  (.region s_gnomonref01_Of_r4 [] [8, 11, 12, 13, 14, 15, 16]))
  (.regionE s_gnomonref01_Of_r5 [9, 10] [4])))
def s_gnomonref01_Of_l0 : ACode := s_gnomonref01_Of_l0_b
theorem s_gnomonref01_Of_l0_ev (call : CallF) (it : IterF) (base : Nat) (fr : List V) (H : Heap) : evC call it base s_gnomonref01_Of_l0 fr H = evC call it base s_gnomonref01_Of_l0_b fr H := rfl
def s_gnomonref01_Of_r6 : List AOper := [
  ⟨some 17, (.move (.t 3)), none⟩,
  ⟨some 2, (.move (.t 17)), none⟩]
theorem s_gnomonref01_Of_r6_tale (fr : List V) (H : Heap) : evTale (symAll s_gnomonref01_Of_r6 [0, 3, 4, 8, 17] [2]) [0, 3, 4, 8, 17] fr H = evTale (some (18, [], [(2, (.t 3))])) [0, 3, 4, 8, 17] fr H := tale_row (items := [.tt 3, .tt 3]) (by kernel_rfl) fr H
def s_gnomonref01_Of : ACFun := { ntmps := 18, results := [(.tmp 2)], body :=
  (.seq (.regionE s_gnomonref01_Of_r0 s_gnomonref01_Of_r0_k [])
  (.seq (.regionE s_gnomonref01_Of_r1 [] [3])
  (.seq (.seq (.regionE s_gnomonref01_Of_r2 [] [4])
  (.block 0
  (.loop [] s_gnomonref01_Of_l0)))
  (.seq (.regionE s_gnomonref01_Of_r6 [0, 3, 4, 8, 17] [2])
  .ret)))) }
abbrev k_gnomonref01_Same : Nat := 11
def s_gnomonref01_Same_r0_k : List Nat := [2, 3, 4, 5, 6, 7, 8, 9, 10, 11, 12, 13, 14, 15, 16, 17, 18, 19, 20, 21, 22, 23, 24, 25]
theorem s_gnomonref01_Same_r0_kT : killV s_gnomonref01_Same_r0_k (startV 26 [] 2) = [] := by kernel_rfl
theorem s_gnomonref01_Same_r0_kA0 : s_gnomonref01_Same_r0_k.contains 0 = false := by kernel_rfl
theorem s_gnomonref01_Same_r0_kA1 : s_gnomonref01_Same_r0_k.contains 1 = false := by kernel_rfl
def s_gnomonref01_Same_r0 : List AOper := [
  ⟨some 4, (.move (.c (.s (.bool false)))), none⟩]
theorem s_gnomonref01_Same_r0_tale (fr : List V) (H : Heap) : evTale (symAll s_gnomonref01_Same_r0 s_gnomonref01_Same_r0_k []) s_gnomonref01_Same_r0_k fr H = evTale (some (5, [], [])) s_gnomonref01_Same_r0_k fr H := tale_row (items := [.cc (.s (.bool false))]) (by kernel_rfl) fr H
def s_gnomonref01_Same_r1 : List AOper := [
  ⟨some 6, (.move (.t 0)), none⟩,
  ⟨some 7, (.lenS .s (.t 6)), none⟩,
  ⟨some 8, (.move (.t 1)), none⟩,
  ⟨some 9, (.lenS .s (.t 8)), none⟩,
  ⟨some 10, (.bin .neq (.t 7) (.t 9)), none⟩]
theorem s_gnomonref01_Same_r1_tale (fr : List V) (H : Heap) : evTale (symAll s_gnomonref01_Same_r1 [6, 7, 8, 9] [10]) [6, 7, 8, 9] fr H = evTale (some (11, [], [(10, (.op (.bin .neq (.t 0) (.t 1)) [(.op (.lenS .s (.t 0)) [(.t 0)]), (.op (.lenS .s (.t 0)) [(.t 1)])]))])) [6, 7, 8, 9] fr H := tale_row (items := [.tt 0, .sub 0 [0] [], .tt 1, .sub 0 [1] [], .sub 0 [] []]) (by kernel_rfl) fr H
def s_gnomonref01_Same_r2 : List AOper := [
  ⟨some 4, (.move (.c (.s (.bool false)))), none⟩]
theorem s_gnomonref01_Same_r2_tale (fr : List V) (H : Heap) : evTale (symAll s_gnomonref01_Same_r2 [0, 1, 10] [4]) [0, 1, 10] fr H = evTale (some (5, [], [(4, (.c (.s (.bool false))))])) [0, 1, 10] fr H := tale_row (items := [.cc (.s (.bool false))]) (by kernel_rfl) fr H
def s_gnomonref01_Same_r3 : List AOper := [
  ⟨some 5, (.move (.c (.s (.int .i64 0)))), none⟩]
theorem s_gnomonref01_Same_r3_tale (fr : List V) (H : Heap) : evTale (symAll s_gnomonref01_Same_r3 [10] [5]) [10] fr H = evTale (some (6, [], [(5, (.c (.s (.int .i64 0))))])) [10] fr H := tale_row (items := [.cc (.s (.int .i64 0))]) (by kernel_rfl) fr H
def s_gnomonref01_Same_r4 : List AOper := [
  ⟨some 11, (.move (.t 5)), none⟩,
  ⟨some 12, (.move (.t 0)), none⟩,
  ⟨some 13, (.lenS .s (.t 12)), none⟩,
  ⟨some 14, (.bin .lss (.t 11) (.t 13)), none⟩]
theorem s_gnomonref01_Same_r4_tale (fr : List V) (H : Heap) : evTale (symAll s_gnomonref01_Same_r4 [11, 12, 13] [14]) [11, 12, 13] fr H = evTale (some (15, [], [(14, (.op (.bin .lss (.t 0) (.t 1)) [(.t 5), (.op (.lenS .s (.t 0)) [(.t 0)])]))])) [11, 12, 13] fr H := tale_row (items := [.tt 5, .tt 0, .sub 0 [1] [], .sub 0 [] []]) (by kernel_rfl) fr H
def s_gnomonref01_Same_r5 : List AOper := [
  ⟨some 17, (.move (.t 0)), none⟩,
  ⟨some 18, (.move (.t 5)), none⟩,
  ⟨some 19, (.indexAddr 1 (.t 17) (.t 18)), none⟩,
  ⟨some 20, (.load false 1 (.t 19)), none⟩,
  ⟨some 21, (.move (.t 1)), none⟩,
  ⟨some 22, (.move (.t 5)), none⟩,
  ⟨some 23, (.indexAddr 1 (.t 21) (.t 22)), none⟩,
  ⟨some 24, (.load false 1 (.t 23)), none⟩,
  ⟨some 25, (.bin .neq (.t 20) (.t 24)), none⟩]
theorem s_gnomonref01_Same_r5_tale (fr : List V) (H : Heap) : evTale (symAll s_gnomonref01_Same_r5 [14, 17, 18, 19, 20, 21, 22, 23, 24] [25]) [14, 17, 18, 19, 20, 21, 22, 23, 24] fr H = evTale (some (26, [], [(25, (.op (.bin .neq (.t 0) (.t 1)) [(.op (.load false 1 (.t 0)) [(.op (.indexAddr 1 (.t 0) (.t 1)) [(.t 0), (.t 5)])]), (.op (.load false 1 (.t 0)) [(.op (.indexAddr 1 (.t 0) (.t 1)) [(.t 1), (.t 5)])])]))])) [14, 17, 18, 19, 20, 21, 22, 23, 24] fr H := tale_row (items := [.tt 0, .tt 5, .sub 0 [0, 0] [], .sub 0 [0] [], .tt 1, .tt 5, .sub 0 [1, 0] [], .sub 0 [1] [], .sub 0 [] []]) (by kernel_rfl) fr H
def s_gnomonref01_Same_r6 : List AOper := [
  ⟨some 4, (.move (.c (.s (.bool false)))), none⟩]
theorem s_gnomonref01_Same_r6_tale (fr : List V) (H : Heap) : evTale (symAll s_gnomonref01_Same_r6 [0, 1, 5, 25] [4]) [0, 1, 5, 25] fr H = evTale (some (5, [], [(4, (.c (.s (.bool false))))])) [0, 1, 5, 25] fr H := tale_row (items := [.cc (.s (.bool false))]) (by kernel_rfl) fr H
def s_gnomonref01_Same_r7 : List AOper := [
  ⟨some 15, (.move (.t 5)), none⟩,
  ⟨some 16, (.bin .add (.t 15) (.c (.s (.int .i64 1)))), none⟩,
  ⟨some 5, (.move (.t 16)), none⟩]
theorem s_gnomonref01_Same_r7_tale (fr : List V) (H : Heap) : evTale (symAll s_gnomonref01_Same_r7 [15, 16, 25] [5]) [15, 16, 25] fr H = evTale (some (17, [], [(5, (.op (.bin .add (.t 0) (.c (.s (.int .i64 1)))) [(.t 5), (.c (.s (.int .i64 1)))]))])) [15, 16, 25] fr H := tale_row (items := [.tt 5, .sub 0 [] [], .sub 0 [] []]) (by kernel_rfl) fr H
def s_gnomonref01_Same_l0_b : ACode :=
  (.seq (.seq (.regionE s_gnomonref01_Same_r4 [11, 12, 13] [14])
  (.cond (.t 14)
  .skip
  (.exit 0)))
  (.seq (.block 1
  (.seq (.regionE s_gnomonref01_Same_r5 [14, 17, 18, 19, 20, 21, 22, 23, 24] [25])
  (.cond (.t 25)
  (.seq (.regionE s_gnomonref01_Same_r6 [0, 1, 5, 25] [4])
  .ret)
  .skip)))
  (.regionE s_gnomonref01_Same_r7 [15, 16, 25] [5])))
def s_gnomonref01_Same_l0 : ACode := s_gnomonref01_Same_l0_b
theorem s_gnomonref01_Same_l0_ev (call : CallF) (it : IterF) (base : Nat) (fr : List V) (H : Heap) : evC call it base s_gnomonref01_Same_l0 fr H = evC call it base s_gnomonref01_Same_l0_b fr H := rfl
def s_gnomonref01_Same_r8 : List AOper := [
  ⟨some 4, (.move (.c (.s (.bool true)))), none⟩]
theorem s_gnomonref01_Same_r8_tale (fr : List V) (H : Heap) : evTale (symAll s_gnomonref01_Same_r8 [0, 1, 5, 14] [4]) [0, 1, 5, 14] fr H = evTale (some (5, [], [(4, (.c (.s (.bool true))))])) [0, 1, 5, 14] fr H := tale_row (items := [.cc (.s (.bool true))]) (by kernel_rfl) fr H
def s_gnomonref01_Same : ACFun := { ntmps := 26, results := [(.tmp 4)], body :=
  (.seq (.regionE s_gnomonref01_Same_r0 s_gnomonref01_Same_r0_k [])
  (.seq (.seq (.regionE s_gnomonref01_Same_r1 [6, 7, 8, 9] [10])
  (.cond (.t 10)
  (.seq (.regionE s_gnomonref01_Same_r2 [0, 1, 10] [4])
  .ret)
  .skip))
  (.seq (.seq (.regionE s_gnomonref01_Same_r3 [10] [5])
  (.block 0
  (.loop [] s_gnomonref01_Same_l0)))
  (.seq (.regionE s_gnomonref01_Same_r8 [0, 1, 5, 14] [4])
  .ret)))) }
abbrev k_gnomonref25_Store : Nat := 13
def s_gnomonref25_Store_r0_k : List Nat := [5, 6, 7, 8, 9, 10, 11, 12, 13, 14, 15, 16, 17, 18, 19, 20, 21, 22, 23, 24, 25, 26, 27, 28]
theorem s_gnomonref25_Store_r0_kT : killV s_gnomonref25_Store_r0_k (startV 29 [] 5) = [] := by kernel_rfl
theorem s_gnomonref25_Store_r0_kA0 : s_gnomonref25_Store_r0_k.contains 0 = false := by kernel_rfl
theorem s_gnomonref25_Store_r0_kA1 : s_gnomonref25_Store_r0_k.contains 1 = false := by kernel_rfl
theorem s_gnomonref25_Store_r0_kA2 : s_gnomonref25_Store_r0_k.contains 2 = false := by kernel_rfl
theorem s_gnomonref25_Store_r0_kA3 : s_gnomonref25_Store_r0_k.contains 3 = false := by kernel_rfl
theorem s_gnomonref25_Store_r0_kA4 : s_gnomonref25_Store_r0_k.contains 4 = false := by kernel_rfl
def s_gnomonref25_Store_r0 : List AOper := [
  ⟨some 10, (.move (.c (.s (.slice none 0 0)))), none⟩]
theorem s_gnomonref25_Store_r0_tale (fr : List V) (H : Heap) : evTale (symAll s_gnomonref25_Store_r0 s_gnomonref25_Store_r0_k []) s_gnomonref25_Store_r0_k fr H = evTale (some (11, [], [])) s_gnomonref25_Store_r0_k fr H := tale_row (items := [.cc (.s (.slice none 0 0))]) (by kernel_rfl) fr H
def s_gnomonref25_Store_r1 : List AOper := [
  ⟨some 11, (.move (.t 2)), none⟩,
  ⟨some 12, (.lenS .s (.t 11)), none⟩,
  ⟨some 13, (.bin .eql (.t 12) (.c (.s (.int .i64 0)))), none⟩]
theorem s_gnomonref25_Store_r1_tale (fr : List V) (H : Heap) : evTale (symAll s_gnomonref25_Store_r1 [11, 12] [13]) [11, 12] fr H = evTale (some (14, [], [(13, (.op (.bin .eql (.t 0) (.c (.s (.int .i64 0)))) [(.op (.lenS .s (.t 0)) [(.t 2)]), (.c (.s (.int .i64 0)))]))])) [11, 12] fr H := tale_row (items := [.tt 2, .sub 0 [0] [], .sub 0 [] []]) (by kernel_rfl) fr H
def s_gnomonref25_Store_r2 : List AOper := [
  ⟨some 10, (.move (.c (.s (.slice none 0 0)))), none⟩]
theorem s_gnomonref25_Store_r2_tale (fr : List V) (H : Heap) : evTale (symAll s_gnomonref25_Store_r2 [0, 1, 2, 3, 4, 13] [10]) [0, 1, 2, 3, 4, 13] fr H = evTale (some (11, [], [(10, (.c (.s (.slice none 0 0))))])) [0, 1, 2, 3, 4, 13] fr H := tale_row (items := [.cc (.s (.slice none 0 0))]) (by kernel_rfl) fr H
def s_gnomonref25_Store_r3t2 : List AOper := [⟨some 17, (.un .not (.t 16)), none⟩]
def s_gnomonref25_Store_r3p1 : List AOper := [⟨some 16, (.call (.c (.fn 23 [] [])) [(.t 14), (.t 15)]), none⟩]
def s_gnomonref25_Store_r3t1 : List AOper := s_gnomonref25_Store_r3p1 ++ s_gnomonref25_Store_r3t2
def s_gnomonref25_Store_r3p0 : List AOper := [⟨some 14, (.move (.t 2)), none⟩, ⟨some 15, (.move (.t 3)), none⟩]
def s_gnomonref25_Store_r3 : List AOper := s_gnomonref25_Store_r3p0 ++ s_gnomonref25_Store_r3t1
theorem s_gnomonref25_Store_r3p0_tale (fr : List V) (H : Heap) : evTale (symAll s_gnomonref25_Store_r3p0 [3, 13] [14, 15]) [3, 13] fr H = evTale (some (16, [], [(14, (.t 2)), (15, (.t 3))])) [3, 13] fr H := tale_row (items := [.tt 2, .tt 3]) (by kernel_rfl) fr H
theorem s_gnomonref25_Store_r3_x (call : CallF) (it : IterF) (base : Nat) (f : List V) (H : Heap) : evC call it base (.region s_gnomonref25_Store_r3 [] [3, 13, 14, 15, 16]) f H = segC call it base s_gnomonref25_Store_r3t1 [3, 13, 14, 15, 16] H (evTale (symAll s_gnomonref25_Store_r3p0 [3, 13] [14, 15]) [3, 13] f H) (origRow call it base s_gnomonref25_Store_r3 [3, 13, 14, 15, 16] f H) := row_seg call it base s_gnomonref25_Store_r3p0 s_gnomonref25_Store_r3t1 (by kernel_rfl) f H
theorem s_gnomonref25_Store_r3t1_x (call : CallF) (it : IterF) (base : Nat) (f : List V) (H : Heap) : evC call it base (.region s_gnomonref25_Store_r3t1 [] [3, 13, 14, 15, 16]) f H = thenC call it base (.region s_gnomonref25_Store_r3t2 [] [3, 13, 14, 15, 16]) (opsC [] s_gnomonref25_Store_r3p1 [14, 15] (evOps call base [⟨some 16, (.call (.c (.fn 23 [] [])) [(.t 14), (.t 15)]), none⟩] f H)) := (row_op call it base s_gnomonref25_Store_r3p1 s_gnomonref25_Store_r3t2 (kc := [14, 15]) (by kernel_rfl) f H).trans (by rw [row_ops]; rfl)
theorem s_gnomonref25_Store_r3t2_tale (fr : List V) (H : Heap) : evTale (symAll s_gnomonref25_Store_r3t2 [3, 13, 14, 15, 16] [17]) [3, 13, 14, 15, 16] fr H = evTale (some (18, [], [(17, (.op (.un .not (.t 0)) [(.t 16)]))])) [3, 13, 14, 15, 16] fr H := tale_row (items := [.sub 0 [] []]) (by kernel_rfl) fr H
theorem s_gnomonref25_Store_r3t2_x (call : CallF) (it : IterF) (base : Nat) (f : List V) (H : Heap) : evC call it base (.region s_gnomonref25_Store_r3t2 [] [3, 13, 14, 15, 16]) f H = segL H (evTale (symAll s_gnomonref25_Store_r3t2 [3, 13, 14, 15, 16] [17]) [3, 13, 14, 15, 16] f H) (origRow call it base s_gnomonref25_Store_r3t2 [3, 13, 14, 15, 16] f H) := row_last call it base _ f H
def s_gnomonref25_Store_r4 : List AOper := [
  ⟨some 18, (.move (.t 0)), none⟩,
  ⟨some 10, (.move (.t 18)), none⟩]
theorem s_gnomonref25_Store_r4_tale (fr : List V) (H : Heap) : evTale (symAll s_gnomonref25_Store_r4 [0, 1, 2, 4, 17, 18] [10]) [0, 1, 2, 4, 17, 18] fr H = evTale (some (19, [], [(10, (.t 0))])) [0, 1, 2, 4, 17, 18] fr H := tale_row (items := [.tt 0, .tt 0]) (by kernel_rfl) fr H
def s_gnomonref25_Store_r5 : List AOper := [
  ⟨some 19, (.move (.t 2)), none⟩,
  ⟨some 20, (.lenS .s (.t 19)), none⟩,
  ⟨some 21, (.bin .eql (.t 20) (.c (.s (.int .i64 1)))), none⟩,
  ⟨some 22, (.move (.t 21)), none⟩,
  ⟨some 23, (.move (.t 4)), some (22, true)⟩,
  ⟨some 24, (.pick (.t 22) (.t 23) (.c (.s (.bool false)))), none⟩]
theorem s_gnomonref25_Store_r5_tale (fr : List V) (H : Heap) : evTale (symAll s_gnomonref25_Store_r5 [2, 4, 17, 19, 20, 21, 22, 23] [24]) [2, 4, 17, 19, 20, 21, 22, 23] fr H = evTale (some (25, [], [(24, (.pick (.op (.bin .eql (.t 0) (.c (.s (.int .i64 1)))) [(.op (.lenS .s (.t 0)) [(.t 2)]), (.c (.s (.int .i64 1)))]) (.t 4) (.c (.s (.bool false)))))])) [2, 4, 17, 19, 20, 21, 22, 23] fr H := tale_row (items := [.tt 2, .sub 0 [0, 0] [], .sub 0 [0] [], .sub 0 [0] [], .sub 0 [1] [22], .sub 0 [] []]) (by kernel_rfl) fr H
def s_gnomonref25_Store_r6 : List AOper := [
  ⟨some 25, (.move (.t 1)), none⟩,
  ⟨some 10, (.move (.t 25)), none⟩]
theorem s_gnomonref25_Store_r6_tale (fr : List V) (H : Heap) : evTale (symAll s_gnomonref25_Store_r6 [0, 1, 24, 25] [10]) [0, 1, 24, 25] fr H = evTale (some (26, [], [(10, (.t 1))])) [0, 1, 24, 25] fr H := tale_row (items := [.tt 1, .tt 1]) (by kernel_rfl) fr H
def s_gnomonref25_Store_r7t2 : List AOper := [⟨some 10, (.move (.t 28)), none⟩]
def s_gnomonref25_Store_r7p1 : List AOper := [⟨some 28, (.call (.c (.fn 24 [] [])) [(.t 26), (.t 27)]), none⟩]
def s_gnomonref25_Store_r7t1 : List AOper := s_gnomonref25_Store_r7p1 ++ s_gnomonref25_Store_r7t2
def s_gnomonref25_Store_r7p0 : List AOper := [⟨some 26, (.move (.t 0)), none⟩, ⟨some 27, (.move (.t 1)), none⟩]
def s_gnomonref25_Store_r7 : List AOper := s_gnomonref25_Store_r7p0 ++ s_gnomonref25_Store_r7t1
theorem s_gnomonref25_Store_r7p0_tale (fr : List V) (H : Heap) : evTale (symAll s_gnomonref25_Store_r7p0 [0, 1, 24] [26, 27]) [0, 1, 24] fr H = evTale (some (28, [], [(26, (.t 0)), (27, (.t 1))])) [0, 1, 24] fr H := tale_row (items := [.tt 0, .tt 1]) (by kernel_rfl) fr H
theorem s_gnomonref25_Store_r7_x (call : CallF) (it : IterF) (base : Nat) (f : List V) (H : Heap) : evC call it base (.region s_gnomonref25_Store_r7 [] [0, 1, 24, 26, 27, 28]) f H = segC call it base s_gnomonref25_Store_r7t1 [0, 1, 24, 26, 27, 28] H (evTale (symAll s_gnomonref25_Store_r7p0 [0, 1, 24] [26, 27]) [0, 1, 24] f H) (origRow call it base s_gnomonref25_Store_r7 [0, 1, 24, 26, 27, 28] f H) := row_seg call it base s_gnomonref25_Store_r7p0 s_gnomonref25_Store_r7t1 (by kernel_rfl) f H
theorem s_gnomonref25_Store_r7t1_x (call : CallF) (it : IterF) (base : Nat) (f : List V) (H : Heap) : evC call it base (.region s_gnomonref25_Store_r7t1 [] [0, 1, 24, 26, 27, 28]) f H = thenC call it base (.region s_gnomonref25_Store_r7t2 [] [0, 1, 24, 26, 27, 28]) (opsC [] s_gnomonref25_Store_r7p1 [26, 27] (evOps call base [⟨some 28, (.call (.c (.fn 24 [] [])) [(.t 26), (.t 27)]), none⟩] f H)) := (row_op call it base s_gnomonref25_Store_r7p1 s_gnomonref25_Store_r7t2 (kc := [26, 27]) (by kernel_rfl) f H).trans (by rw [row_ops]; rfl)
theorem s_gnomonref25_Store_r7t2_tale (fr : List V) (H : Heap) : evTale (symAll s_gnomonref25_Store_r7t2 [0, 1, 24, 26, 27, 28] [10]) [0, 1, 24, 26, 27, 28] fr H = evTale (some (11, [], [(10, (.t 28))])) [0, 1, 24, 26, 27, 28] fr H := tale_row (items := [.tt 28]) (by kernel_rfl) fr H
theorem s_gnomonref25_Store_r7t2_x (call : CallF) (it : IterF) (base : Nat) (f : List V) (H : Heap) : evC call it base (.region s_gnomonref25_Store_r7t2 [] [0, 1, 24, 26, 27, 28]) f H = segL H (evTale (symAll s_gnomonref25_Store_r7t2 [0, 1, 24, 26, 27, 28] [10]) [0, 1, 24, 26, 27, 28] f H) (origRow call it base s_gnomonref25_Store_r7t2 [0, 1, 24, 26, 27, 28] f H) := row_last call it base _ f H
def s_gnomonref25_Store : ACFun := { ntmps := 29, results := [(.tmp 10)], body :=
  (.seq (.regionE s_gnomonref25_Store_r0 s_gnomonref25_Store_r0_k [])
  (.seq (.seq (.regionE s_gnomonref25_Store_r1 [11, 12] [13])
  (.cond (.t 13)
  (.seq (.regionE s_gnomonref25_Store_r2 [0, 1, 2, 3, 4, 13] [10])
  .ret)
  .skip))
  (.seq (.seq (.region s_gnomonref25_Store_r3 [] [3, 13, 14, 15, 16])
  (.cond (.t 17)
  (.seq (.regionE s_gnomonref25_Store_r4 [0, 1, 2, 4, 17, 18] [10])
  .ret)
  .skip))
  (.seq (.seq (.regionE s_gnomonref25_Store_r5 [2, 4, 17, 19, 20, 21, 22, 23] [24])
  (.cond (.t 24)
  (.seq (.regionE s_gnomonref25_Store_r6 [0, 1, 24, 25] [10])
  .ret)
  .skip))
  (.seq (.region s_gnomonref25_Store_r7 [] [0, 1, 24, 26, 27, 28])
  .ret))))) }
abbrev k_gnomonref25_Call : Nat := 14
def s_gnomonref25_Call_r0_k : List Nat := [2, 3, 4, 5, 6, 7, 8, 9, 10, 11, 12, 13, 14, 15, 16, 17, 18, 19, 20, 21, 22, 23, 24, 25, 26, 27, 28]
theorem s_gnomonref25_Call_r0_kT : killV s_gnomonref25_Call_r0_k (startV 29 [] 2) = [] := by kernel_rfl
theorem s_gnomonref25_Call_r0_kA0 : s_gnomonref25_Call_r0_k.contains 0 = false := by kernel_rfl
theorem s_gnomonref25_Call_r0_kA1 : s_gnomonref25_Call_r0_k.contains 1 = false := by kernel_rfl
def s_gnomonref25_Call_r0 : List AOper := [
  ⟨some 4, (.move (.c (.s (.slice none 0 0)))), none⟩]
theorem s_gnomonref25_Call_r0_tale (fr : List V) (H : Heap) : evTale (symAll s_gnomonref25_Call_r0 s_gnomonref25_Call_r0_k []) s_gnomonref25_Call_r0_k fr H = evTale (some (5, [], [])) s_gnomonref25_Call_r0_k fr H := tale_row (items := [.cc (.s (.slice none 0 0))]) (by kernel_rfl) fr H
def s_gnomonref25_Call_r1 : List AOper := [
  ⟨some 5, (.move (.c (.s (.slice none 0 0)))), none⟩]
theorem s_gnomonref25_Call_r1_tale (fr : List V) (H : Heap) : evTale (symAll s_gnomonref25_Call_r1 [] [5]) [] fr H = evTale (some (6, [], [(5, (.c (.s (.slice none 0 0))))])) [] fr H := tale_row (items := [.cc (.s (.slice none 0 0))]) (by kernel_rfl) fr H
def s_gnomonref25_Call_r2 : List AOper := [
  ⟨some 6, (.move (.c (.s (.int .i64 0)))), none⟩]
theorem s_gnomonref25_Call_r2_tale (fr : List V) (H : Heap) : evTale (symAll s_gnomonref25_Call_r2 [] [6]) [] fr H = evTale (some (7, [], [(6, (.c (.s (.int .i64 0))))])) [] fr H := tale_row (items := [.cc (.s (.int .i64 0))]) (by kernel_rfl) fr H
def s_gnomonref25_Call_r3 : List AOper := [
  ⟨some 7, (.move (.t 6)), none⟩,
  ⟨some 8, (.move (.t 1)), none⟩,
  ⟨some 9, (.lenS .s (.t 8)), none⟩,
  ⟨some 10, (.bin .lss (.t 7) (.t 9)), none⟩]
theorem s_gnomonref25_Call_r3_tale (fr : List V) (H : Heap) : evTale (symAll s_gnomonref25_Call_r3 [7, 8, 9] [10]) [7, 8, 9] fr H = evTale (some (11, [], [(10, (.op (.bin .lss (.t 0) (.t 1)) [(.t 6), (.op (.lenS .s (.t 0)) [(.t 1)])]))])) [7, 8, 9] fr H := tale_row (items := [.tt 6, .tt 1, .sub 0 [1] [], .sub 0 [] []]) (by kernel_rfl) fr H
def s_gnomonref25_Call_r4 : List AOper := [
  ⟨some 13, (.move (.t 1)), none⟩,
  ⟨some 14, (.move (.t 6)), none⟩,
  ⟨some 15, (.indexAddr 2 (.t 13) (.t 14)), none⟩,
  ⟨some 16, (.fieldAddr 0 (.t 15)), none⟩,
  ⟨some 17, (.load false 1 (.t 16)), none⟩]
theorem s_gnomonref25_Call_r4_tale (fr : List V) (H : Heap) : evTale (symAll s_gnomonref25_Call_r4 [10, 13, 14, 15, 16] [17]) [10, 13, 14, 15, 16] fr H = evTale (some (18, [], [(17, (.op (.load false 1 (.t 0)) [(.op (.fieldAddr 0 (.t 0)) [(.op (.indexAddr 2 (.t 0) (.t 1)) [(.t 1), (.t 6)])])]))])) [10, 13, 14, 15, 16] fr H := tale_row (items := [.tt 1, .tt 6, .sub 0 [0, 0] [], .sub 0 [0] [], .sub 0 [] []]) (by kernel_rfl) fr H
def s_gnomonref25_Call_r5t2 : List AOper := [⟨some 5, (.move (.t 24)), none⟩]
def s_gnomonref25_Call_r5p1 : List AOper := [⟨some 24, (.call (.c (.fn 24 [] [])) [(.t 18), (.t 23)]), none⟩]
def s_gnomonref25_Call_r5t1 : List AOper := s_gnomonref25_Call_r5p1 ++ s_gnomonref25_Call_r5t2
def s_gnomonref25_Call_r5p0 : List AOper := [⟨some 18, (.move (.t 5)), none⟩, ⟨some 19, (.move (.t 1)), none⟩, ⟨some 20, (.move (.t 6)), none⟩, ⟨some 21, (.indexAddr 2 (.t 19) (.t 20)), none⟩, ⟨some 22, (.fieldAddr 1 (.t 21)), none⟩, ⟨some 23, (.load false 1 (.t 22)), none⟩]
def s_gnomonref25_Call_r5 : List AOper := s_gnomonref25_Call_r5p0 ++ s_gnomonref25_Call_r5t1
theorem s_gnomonref25_Call_r5p0_tale (fr : List V) (H : Heap) : evTale (symAll s_gnomonref25_Call_r5p0 [5, 17, 19, 20, 21, 22] [18, 23]) [5, 17, 19, 20, 21, 22] fr H = evTale (some (24, [], [(18, (.t 5)), (23, (.op (.load false 1 (.t 0)) [(.op (.fieldAddr 1 (.t 0)) [(.op (.indexAddr 2 (.t 0) (.t 1)) [(.t 1), (.t 6)])])]))])) [5, 17, 19, 20, 21, 22] fr H := tale_row (items := [.tt 5, .tt 1, .tt 6, .sub 1 [0, 0] [], .sub 1 [0] [], .sub 1 [] []]) (by kernel_rfl) fr H
theorem s_gnomonref25_Call_r5_x (call : CallF) (it : IterF) (base : Nat) (f : List V) (H : Heap) : evC call it base (.region s_gnomonref25_Call_r5 [] [17, 18, 19, 20, 21, 22, 23, 24]) f H = segC call it base s_gnomonref25_Call_r5t1 [17, 18, 19, 20, 21, 22, 23, 24] H (evTale (symAll s_gnomonref25_Call_r5p0 [5, 17, 19, 20, 21, 22] [18, 23]) [5, 17, 19, 20, 21, 22] f H) (origRow call it base s_gnomonref25_Call_r5 [17, 18, 19, 20, 21, 22, 23, 24] f H) := row_seg call it base s_gnomonref25_Call_r5p0 s_gnomonref25_Call_r5t1 (by kernel_rfl) f H
theorem s_gnomonref25_Call_r5t1_x (call : CallF) (it : IterF) (base : Nat) (f : List V) (H : Heap) : evC call it base (.region s_gnomonref25_Call_r5t1 [] [17, 18, 19, 20, 21, 22, 23, 24]) f H = thenC call it base (.region s_gnomonref25_Call_r5t2 [] [17, 18, 19, 20, 21, 22, 23, 24]) (opsC [] s_gnomonref25_Call_r5p1 [18, 23] (evOps call base [⟨some 24, (.call (.c (.fn 24 [] [])) [(.t 18), (.t 23)]), none⟩] f H)) := (row_op call it base s_gnomonref25_Call_r5p1 s_gnomonref25_Call_r5t2 (kc := [18, 23]) (by kernel_rfl) f H).trans (by rw [row_ops]; rfl)
theorem s_gnomonref25_Call_r5t2_tale (fr : List V) (H : Heap) : evTale (symAll s_gnomonref25_Call_r5t2 [17, 18, 19, 20, 21, 22, 23, 24] [5]) [17, 18, 19, 20, 21, 22, 23, 24] fr H = evTale (some (6, [], [(5, (.t 24))])) [17, 18, 19, 20, 21, 22, 23, 24] fr H := tale_row (items := [.tt 24]) (by kernel_rfl) fr H
theorem s_gnomonref25_Call_r5t2_x (call : CallF) (it : IterF) (base : Nat) (f : List V) (H : Heap) : evC call it base (.region s_gnomonref25_Call_r5t2 [] [17, 18, 19, 20, 21, 22, 23, 24]) f H = segL H (evTale (symAll s_gnomonref25_Call_r5t2 [17, 18, 19, 20, 21, 22, 23, 24] [5]) [17, 18, 19, 20, 21, 22, 23, 24] f H) (origRow call it base s_gnomonref25_Call_r5t2 [17, 18, 19, 20, 21, 22, 23, 24] f H) := row_last call it base _ f H
def s_gnomonref25_Call_r6t2 : List AOper := [⟨some 5, (.move (.t 27)), none⟩]
def s_gnomonref25_Call_r6p1 : List AOper := [⟨some 27, (.call (.c (.fn 24 [] [])) [(.t 25), (.t 26)]), none⟩]
def s_gnomonref25_Call_r6t1 : List AOper := s_gnomonref25_Call_r6p1 ++ s_gnomonref25_Call_r6t2
def s_gnomonref25_Call_r6p0 : List AOper := [⟨some 25, (.move (.t 5)), none⟩, ⟨some 26, (.move (.t 0)), none⟩]
def s_gnomonref25_Call_r6 : List AOper := s_gnomonref25_Call_r6p0 ++ s_gnomonref25_Call_r6t1
theorem s_gnomonref25_Call_r6p0_tale (fr : List V) (H : Heap) : evTale (symAll s_gnomonref25_Call_r6p0 [5, 17] [25, 26]) [5, 17] fr H = evTale (some (27, [], [(25, (.t 5)), (26, (.t 0))])) [5, 17] fr H := tale_row (items := [.tt 5, .tt 0]) (by kernel_rfl) fr H
theorem s_gnomonref25_Call_r6_x (call : CallF) (it : IterF) (base : Nat) (f : List V) (H : Heap) : evC call it base (.region s_gnomonref25_Call_r6 [] [17, 25, 26, 27]) f H = segC call it base s_gnomonref25_Call_r6t1 [17, 25, 26, 27] H (evTale (symAll s_gnomonref25_Call_r6p0 [5, 17] [25, 26]) [5, 17] f H) (origRow call it base s_gnomonref25_Call_r6 [17, 25, 26, 27] f H) := row_seg call it base s_gnomonref25_Call_r6p0 s_gnomonref25_Call_r6t1 (by kernel_rfl) f H
theorem s_gnomonref25_Call_r6t1_x (call : CallF) (it : IterF) (base : Nat) (f : List V) (H : Heap) : evC call it base (.region s_gnomonref25_Call_r6t1 [] [17, 25, 26, 27]) f H = thenC call it base (.region s_gnomonref25_Call_r6t2 [] [17, 25, 26, 27]) (opsC [] s_gnomonref25_Call_r6p1 [25, 26] (evOps call base [⟨some 27, (.call (.c (.fn 24 [] [])) [(.t 25), (.t 26)]), none⟩] f H)) := (row_op call it base s_gnomonref25_Call_r6p1 s_gnomonref25_Call_r6t2 (kc := [25, 26]) (by kernel_rfl) f H).trans (by rw [row_ops]; rfl)
theorem s_gnomonref25_Call_r6t2_tale (fr : List V) (H : Heap) : evTale (symAll s_gnomonref25_Call_r6t2 [17, 25, 26, 27] [5]) [17, 25, 26, 27] fr H = evTale (some (6, [], [(5, (.t 27))])) [17, 25, 26, 27] fr H := tale_row (items := [.tt 27]) (by kernel_rfl) fr H
theorem s_gnomonref25_Call_r6t2_x (call : CallF) (it : IterF) (base : Nat) (f : List V) (H : Heap) : evC call it base (.region s_gnomonref25_Call_r6t2 [] [17, 25, 26, 27]) f H = segL H (evTale (symAll s_gnomonref25_Call_r6t2 [17, 25, 26, 27] [5]) [17, 25, 26, 27] f H) (origRow call it base s_gnomonref25_Call_r6t2 [17, 25, 26, 27] f H) := row_last call it base _ f H
def s_gnomonref25_Call_r7 : List AOper := [
  ⟨some 11, (.move (.t 6)), none⟩,
  ⟨some 12, (.bin .add (.t 11) (.c (.s (.int .i64 1)))), none⟩,
  ⟨some 6, (.move (.t 12)), none⟩]
theorem s_gnomonref25_Call_r7_tale (fr : List V) (H : Heap) : evTale (symAll s_gnomonref25_Call_r7 [11, 12] [6]) [11, 12] fr H = evTale (some (13, [], [(6, (.op (.bin .add (.t 0) (.c (.s (.int .i64 1)))) [(.t 6), (.c (.s (.int .i64 1)))]))])) [11, 12] fr H := tale_row (items := [.tt 6, .sub 0 [] [], .sub 0 [] []]) (by kernel_rfl) fr H
def s_gnomonref25_Call_l0_b : ACode :=
  (.seq (.seq (.regionE s_gnomonref25_Call_r3 [7, 8, 9] [10])
  (.cond (.t 10)
  .skip
  (.exit 0)))
  (.seq (.block 1
  (.seq (.regionE s_gnomonref25_Call_r4 [10, 13, 14, 15, 16] [17])
  (.cond (.t 17)
  (.region s_gnomonref25_Call_r5 [] [17, 18, 19, 20, 21, 22, 23, 24])
  (.region s_gnomonref25_Call_r6 [] [17, 25, 26, 27]))))
  (.regionE s_gnomonref25_Call_r7 [11, 12] [6])))
def s_gnomonref25_Call_l0 : ACode := s_gnomonref25_Call_l0_b
theorem s_gnomonref25_Call_l0_ev (call : CallF) (it : IterF) (base : Nat) (fr : List V) (H : Heap) : evC call it base s_gnomonref25_Call_l0 fr H = evC call it base s_gnomonref25_Call_l0_b fr H := rfl
def s_gnomonref25_Call_r8 : List AOper := [
  ⟨some 28, (.move (.t 5)), none⟩,
  ⟨some 4, (.move (.t 28)), none⟩]
theorem s_gnomonref25_Call_r8_tale (fr : List V) (H : Heap) : evTale (symAll s_gnomonref25_Call_r8 [0, 1, 5, 6, 10, 28] [4]) [0, 1, 5, 6, 10, 28] fr H = evTale (some (29, [], [(4, (.t 5))])) [0, 1, 5, 6, 10, 28] fr H := tale_row (items := [.tt 5, .tt 5]) (by kernel_rfl) fr H
def s_gnomonref25_Call : ACFun := { ntmps := 29, results := [(.tmp 4)], body :=
  (.seq (.regionE s_gnomonref25_Call_r0 s_gnomonref25_Call_r0_k [])
  (.seq (.regionE s_gnomonref25_Call_r1 [] [5])
  (.seq (.seq (.regionE s_gnomonref25_Call_r2 [] [6])
  (.block 0
  (.loop [] s_gnomonref25_Call_l0)))
  (.seq (.regionE s_gnomonref25_Call_r8 [0, 1, 5, 6, 10, 28] [4])
  .ret)))) }
abbrev k_gnomonref01_Add : Nat := 20
def s_gnomonref01_Add_r0_k : List Nat := [2, 3, 4, 5, 6, 7, 8, 9, 10, 11, 12, 13, 14, 15, 16, 17, 18, 19, 20, 21, 22, 23, 24, 25, 26, 27, 28, 29, 30, 31, 32, 33, 34, 35, 36, 37, 38, 39, 40, 41]
theorem s_gnomonref01_Add_r0_kT : killV s_gnomonref01_Add_r0_k (startV 42 [] 2) = [] := by kernel_rfl
theorem s_gnomonref01_Add_r0_kA0 : s_gnomonref01_Add_r0_k.contains 0 = false := by kernel_rfl
theorem s_gnomonref01_Add_r0_kA1 : s_gnomonref01_Add_r0_k.contains 1 = false := by kernel_rfl
def s_gnomonref01_Add_r0 : List AOper := [
  ⟨some 4, (.move (.c (.s (.slice none 0 0)))), none⟩]
theorem s_gnomonref01_Add_r0_tale (fr : List V) (H : Heap) : evTale (symAll s_gnomonref01_Add_r0 s_gnomonref01_Add_r0_k []) s_gnomonref01_Add_r0_k fr H = evTale (some (5, [], [])) s_gnomonref01_Add_r0_k fr H := tale_row (items := [.cc (.s (.slice none 0 0))]) (by kernel_rfl) fr H
def s_gnomonref01_Add_r1t4 : List AOper := [⟨some 13, (.pick (.t 9) (.c (.s (.bool true))) (.t 12)), none⟩]
def s_gnomonref01_Add_r1p3 : List AOper := [⟨some 12, (.call (.c (.fn 23 [] [])) [(.t 10), (.t 11)]), some (9, false)⟩]
def s_gnomonref01_Add_r1t3 : List AOper := s_gnomonref01_Add_r1p3 ++ s_gnomonref01_Add_r1t4
def s_gnomonref01_Add_r1p2 : List AOper := [⟨some 11, (.move (.t 1)), some (9, false)⟩]
def s_gnomonref01_Add_r1t2 : List AOper := s_gnomonref01_Add_r1p2 ++ s_gnomonref01_Add_r1t3
def s_gnomonref01_Add_r1p1 : List AOper := [⟨some 10, (.move (.t 0)), some (9, false)⟩]
def s_gnomonref01_Add_r1t1 : List AOper := s_gnomonref01_Add_r1p1 ++ s_gnomonref01_Add_r1t2
def s_gnomonref01_Add_r1p0 : List AOper := [⟨some 7, (.move (.t 1)), none⟩, ⟨some 8, (.bin .lss (.t 7) (.c (.s (.int .i64 0)))), none⟩, ⟨some 9, (.move (.t 8)), none⟩]
def s_gnomonref01_Add_r1 : List AOper := s_gnomonref01_Add_r1p0 ++ s_gnomonref01_Add_r1t1
theorem s_gnomonref01_Add_r1p0_tale (fr : List V) (H : Heap) : evTale (symAll s_gnomonref01_Add_r1p0 [7, 8] [9]) [7, 8] fr H = evTale (some (10, [], [(9, (.op (.bin .lss (.t 0) (.c (.s (.int .i64 0)))) [(.t 1), (.c (.s (.int .i64 0)))]))])) [7, 8] fr H := tale_row (items := [.tt 1, .sub 0 [] [], .sub 0 [] []]) (by kernel_rfl) fr H
theorem s_gnomonref01_Add_r1_x (call : CallF) (it : IterF) (base : Nat) (f : List V) (H : Heap) : evC call it base (.region s_gnomonref01_Add_r1 [] [7, 8, 9, 10, 11, 12]) f H = segC call it base s_gnomonref01_Add_r1t1 [7, 8, 9, 10, 11, 12] H (evTale (symAll s_gnomonref01_Add_r1p0 [7, 8] [9]) [7, 8] f H) (origRow call it base s_gnomonref01_Add_r1 [7, 8, 9, 10, 11, 12] f H) := row_seg call it base s_gnomonref01_Add_r1p0 s_gnomonref01_Add_r1t1 (by kernel_rfl) f H
theorem s_gnomonref01_Add_r1t1_x (call : CallF) (it : IterF) (base : Nat) (f : List V) (H : Heap) : evC call it base (.region s_gnomonref01_Add_r1t1 [] [7, 8, 9, 10, 11, 12]) f H = thenC call it base (.region s_gnomonref01_Add_r1t2 [] [7, 8, 9, 10, 11, 12]) (opsC [] s_gnomonref01_Add_r1p1 [] (evOps call base [⟨some 10, (.move (.t 0)), some (9, false)⟩] f H)) := (row_op call it base s_gnomonref01_Add_r1p1 s_gnomonref01_Add_r1t2 (kc := []) (by kernel_rfl) f H).trans (by rw [row_ops]; rfl)
theorem s_gnomonref01_Add_r1t2_x (call : CallF) (it : IterF) (base : Nat) (f : List V) (H : Heap) : evC call it base (.region s_gnomonref01_Add_r1t2 [] [7, 8, 9, 10, 11, 12]) f H = thenC call it base (.region s_gnomonref01_Add_r1t3 [] [7, 8, 9, 10, 11, 12]) (opsC [] s_gnomonref01_Add_r1p2 [] (evOps call base [⟨some 11, (.move (.t 1)), some (9, false)⟩] f H)) := (row_op call it base s_gnomonref01_Add_r1p2 s_gnomonref01_Add_r1t3 (kc := []) (by kernel_rfl) f H).trans (by rw [row_ops]; rfl)
theorem s_gnomonref01_Add_r1t3_x (call : CallF) (it : IterF) (base : Nat) (f : List V) (H : Heap) : evC call it base (.region s_gnomonref01_Add_r1t3 [] [7, 8, 9, 10, 11, 12]) f H = thenC call it base (.region s_gnomonref01_Add_r1t4 [] [7, 8, 9, 10, 11, 12]) (opsC [] s_gnomonref01_Add_r1p3 [10, 11] (evOps call base [⟨some 12, (.call (.c (.fn 23 [] [])) [(.t 10), (.t 11)]), some (9, false)⟩] f H)) := (row_op call it base s_gnomonref01_Add_r1p3 s_gnomonref01_Add_r1t4 (kc := [10, 11]) (by kernel_rfl) f H).trans (by rw [row_ops]; rfl)
theorem s_gnomonref01_Add_r1t4_tale (fr : List V) (H : Heap) : evTale (symAll s_gnomonref01_Add_r1t4 [7, 8, 9, 10, 11, 12] [13]) [7, 8, 9, 10, 11, 12] fr H = evTale (some (14, [], [(13, (.pick (.t 9) (.c (.s (.bool true))) (.t 12)))])) [7, 8, 9, 10, 11, 12] fr H := tale_row (items := [.sub 0 [] []]) (by kernel_rfl) fr H
theorem s_gnomonref01_Add_r1t4_x (call : CallF) (it : IterF) (base : Nat) (f : List V) (H : Heap) : evC call it base (.region s_gnomonref01_Add_r1t4 [] [7, 8, 9, 10, 11, 12]) f H = segL H (evTale (symAll s_gnomonref01_Add_r1t4 [7, 8, 9, 10, 11, 12] [13]) [7, 8, 9, 10, 11, 12] f H) (origRow call it base s_gnomonref01_Add_r1t4 [7, 8, 9, 10, 11, 12] f H) := row_last call it base _ f H
def s_gnomonref01_Add_r2 : List AOper := [
  ⟨some 14, (.move (.t 0)), none⟩,
  ⟨some 4, (.move (.t 14)), none⟩]
theorem s_gnomonref01_Add_r2_tale (fr : List V) (H : Heap) : evTale (symAll s_gnomonref01_Add_r2 [0, 1, 13, 14] [4]) [0, 1, 13, 14] fr H = evTale (some (15, [], [(4, (.t 0))])) [0, 1, 13, 14] fr H := tale_row (items := [.tt 0, .tt 0]) (by kernel_rfl) fr H
def s_gnomonref01_Add_r3 : List AOper := [
  ⟨some 5, (.move (.c (.s (.int .i64 0)))), none⟩]
theorem s_gnomonref01_Add_r3_tale (fr : List V) (H : Heap) : evTale (symAll s_gnomonref01_Add_r3 [13] [5]) [13] fr H = evTale (some (6, [], [(5, (.c (.s (.int .i64 0))))])) [13] fr H := tale_row (items := [.cc (.s (.int .i64 0))]) (by kernel_rfl) fr H
def s_gnomonref01_Add_r4 : List AOper := [
  ⟨some 15, (.move (.t 5)), none⟩,
  ⟨some 16, (.move (.t 0)), none⟩,
  ⟨some 17, (.lenS .s (.t 16)), none⟩,
  ⟨some 18, (.bin .lss (.t 15) (.t 17)), none⟩,
  ⟨some 19, (.move (.t 18)), none⟩,
  ⟨some 20, (.move (.t 0)), some (19, true)⟩,
  ⟨some 21, (.move (.t 5)), some (19, true)⟩,
  ⟨some 22, (.indexAddr 1 (.t 20) (.t 21)), some (19, true)⟩,
  ⟨some 23, (.load false 1 (.t 22)), some (19, true)⟩,
  ⟨some 24, (.move (.t 1)), some (19, true)⟩,
  ⟨some 25, (.bin .lss (.t 23) (.t 24)), some (19, true)⟩,
  ⟨some 26, (.pick (.t 19) (.t 25) (.c (.s (.bool false)))), none⟩]
theorem s_gnomonref01_Add_r4_tale (fr : List V) (H : Heap) : evTale (symAll s_gnomonref01_Add_r4 [15, 16, 17, 18, 19, 20, 21, 22, 23, 24, 25] [26]) [15, 16, 17, 18, 19, 20, 21, 22, 23, 24, 25] fr H = evTale (some (27, [], [(26, (.pick (.op (.bin .lss (.t 0) (.t 1)) [(.t 5), (.op (.lenS .s (.t 0)) [(.t 0)])]) (.op (.bin .lss (.t 0) (.t 1)) [(.op (.load false 1 (.t 0)) [(.op (.indexAddr 1 (.t 0) (.t 1)) [(.t 0), (.t 5)])]), (.t 1)]) (.c (.s (.bool false)))))])) [15, 16, 17, 18, 19, 20, 21, 22, 23, 24, 25] fr H := tale_row (items := [.tt 5, .tt 0, .sub 0 [0, 1] [], .sub 0 [0] [], .sub 0 [0] [], .sub 0 [1, 0, 0, 0] [19], .sub 0 [1, 0, 0, 1] [19], .sub 0 [1, 0, 0] [19], .sub 0 [1, 0] [19], .sub 0 [1, 1] [19], .sub 0 [1] [19], .sub 0 [] []]) (by kernel_rfl) fr H
def s_gnomonref01_Add_r5 : List AOper := [
  ⟨some 27, (.move (.t 5)), none⟩,
  ⟨some 28, (.bin .add (.t 27) (.c (.s (.int .i64 1)))), none⟩,
  ⟨some 5, (.move (.t 28)), none⟩]
theorem s_gnomonref01_Add_r5_tale (fr : List V) (H : Heap) : evTale (symAll s_gnomonref01_Add_r5 [26, 27, 28] [5]) [26, 27, 28] fr H = evTale (some (29, [], [(5, (.op (.bin .add (.t 0) (.c (.s (.int .i64 1)))) [(.t 5), (.c (.s (.int .i64 1)))]))])) [26, 27, 28] fr H := tale_row (items := [.tt 5, .sub 0 [] [], .sub 0 [] []]) (by kernel_rfl) fr H
def s_gnomonref01_Add_l0_b : ACode :=
  (.seq (.seq (.regionE s_gnomonref01_Add_r4 [15, 16, 17, 18, 19, 20, 21, 22, 23, 24, 25] [26])
  (.cond (.t 26)
  .skip
  (.exit 0)))
  (.block 1
  (.regionE s_gnomonref01_Add_r5 [26, 27, 28] [5])))
def s_gnomonref01_Add_l0 : ACode := s_gnomonref01_Add_l0_b
theorem s_gnomonref01_Add_l0_ev (call : CallF) (it : IterF) (base : Nat) (fr : List V) (H : Heap) : evC call it base s_gnomonref01_Add_l0 fr H = evC call it base s_gnomonref01_Add_l0_b fr H := rfl
def s_gnomonref01_Add_r6t2 : List AOper := [⟨some 6, (.move (.t 32)), none⟩]
def s_gnomonref01_Add_r6p1 : List AOper := [⟨some 32, (.append 1 8 (.c (.s (.slice none 0 0))) (.t 31)), none⟩]
def s_gnomonref01_Add_r6t1 : List AOper := s_gnomonref01_Add_r6p1 ++ s_gnomonref01_Add_r6t2
def s_gnomonref01_Add_r6p0 : List AOper := [⟨some 29, (.move (.t 0)), none⟩, ⟨some 30, (.move (.t 5)), none⟩, ⟨some 31, (.subSl 1 (.t 29) none (some (.t 30)) none), none⟩]
def s_gnomonref01_Add_r6 : List AOper := s_gnomonref01_Add_r6p0 ++ s_gnomonref01_Add_r6t1
theorem s_gnomonref01_Add_r6p0_tale (fr : List V) (H : Heap) : evTale (symAll s_gnomonref01_Add_r6p0 [26, 29, 30] [31]) [26, 29, 30] fr H = evTale (some (32, [], [(31, (.op (.subSl 1 (.t 0) none (some (.t 1)) none) [(.t 0), (.t 5)]))])) [26, 29, 30] fr H := tale_row (items := [.tt 0, .tt 5, .sub 0 [] []]) (by kernel_rfl) fr H
theorem s_gnomonref01_Add_r6_x (call : CallF) (it : IterF) (base : Nat) (f : List V) (H : Heap) : evC call it base (.region s_gnomonref01_Add_r6 [] [26, 29, 30, 31, 32]) f H = segC call it base s_gnomonref01_Add_r6t1 [26, 29, 30, 31, 32] H (evTale (symAll s_gnomonref01_Add_r6p0 [26, 29, 30] [31]) [26, 29, 30] f H) (origRow call it base s_gnomonref01_Add_r6 [26, 29, 30, 31, 32] f H) := row_seg call it base s_gnomonref01_Add_r6p0 s_gnomonref01_Add_r6t1 (by kernel_rfl) f H
theorem s_gnomonref01_Add_r6t1_x (call : CallF) (it : IterF) (base : Nat) (f : List V) (H : Heap) : evC call it base (.region s_gnomonref01_Add_r6t1 [] [26, 29, 30, 31, 32]) f H = thenC call it base (.region s_gnomonref01_Add_r6t2 [] [26, 29, 30, 31, 32]) (opsC [] s_gnomonref01_Add_r6p1 [31] (evOps call base [⟨some 32, (.append 1 8 (.c (.s (.slice none 0 0))) (.t 31)), none⟩] f H)) := (row_op call it base s_gnomonref01_Add_r6p1 s_gnomonref01_Add_r6t2 (kc := [31]) (by kernel_rfl) f H).trans (by rw [row_ops]; rfl)
theorem s_gnomonref01_Add_r6t2_tale (fr : List V) (H : Heap) : evTale (symAll s_gnomonref01_Add_r6t2 [26, 29, 30, 31, 32] [6]) [26, 29, 30, 31, 32] fr H = evTale (some (7, [], [(6, (.t 32))])) [26, 29, 30, 31, 32] fr H := tale_row (items := [.tt 32]) (by kernel_rfl) fr H
theorem s_gnomonref01_Add_r6t2_x (call : CallF) (it : IterF) (base : Nat) (f : List V) (H : Heap) : evC call it base (.region s_gnomonref01_Add_r6t2 [] [26, 29, 30, 31, 32]) f H = segL H (evTale (symAll s_gnomonref01_Add_r6t2 [26, 29, 30, 31, 32] [6]) [26, 29, 30, 31, 32] f H) (origRow call it base s_gnomonref01_Add_r6t2 [26, 29, 30, 31, 32] f H) := row_last call it base _ f H
def s_gnomonref01_Add_r7t3 : List AOper := [⟨some 6, (.move (.t 36)), none⟩]
def s_gnomonref01_Add_r7p2 : List AOper := [⟨some 36, (.append 1 8 (.t 33) (.t 35)), none⟩]
def s_gnomonref01_Add_r7t2 : List AOper := s_gnomonref01_Add_r7p2 ++ s_gnomonref01_Add_r7t3
def s_gnomonref01_Add_r7p1 : List AOper := [⟨some 35, (.buildSl 1 1 [(.s (.int .i64 0))] [(0, (.t 34))]), none⟩]
def s_gnomonref01_Add_r7t1 : List AOper := s_gnomonref01_Add_r7p1 ++ s_gnomonref01_Add_r7t2
def s_gnomonref01_Add_r7p0 : List AOper := [⟨some 33, (.move (.t 6)), none⟩, ⟨some 34, (.move (.t 1)), none⟩]
def s_gnomonref01_Add_r7 : List AOper := s_gnomonref01_Add_r7p0 ++ s_gnomonref01_Add_r7t1
theorem s_gnomonref01_Add_r7p0_tale (fr : List V) (H : Heap) : evTale (symAll s_gnomonref01_Add_r7p0 [1, 6] [33, 34]) [1, 6] fr H = evTale (some (35, [], [(33, (.t 6)), (34, (.t 1))])) [1, 6] fr H := tale_row (items := [.tt 6, .tt 1]) (by kernel_rfl) fr H
theorem s_gnomonref01_Add_r7_x (call : CallF) (it : IterF) (base : Nat) (f : List V) (H : Heap) : evC call it base (.region s_gnomonref01_Add_r7 [] [1, 33, 34, 35, 36]) f H = segC call it base s_gnomonref01_Add_r7t1 [1, 33, 34, 35, 36] H (evTale (symAll s_gnomonref01_Add_r7p0 [1, 6] [33, 34]) [1, 6] f H) (origRow call it base s_gnomonref01_Add_r7 [1, 33, 34, 35, 36] f H) := row_seg call it base s_gnomonref01_Add_r7p0 s_gnomonref01_Add_r7t1 (by kernel_rfl) f H
theorem s_gnomonref01_Add_r7t1_x (call : CallF) (it : IterF) (base : Nat) (f : List V) (H : Heap) : evC call it base (.region s_gnomonref01_Add_r7t1 [] [1, 33, 34, 35, 36]) f H = thenC call it base (.region s_gnomonref01_Add_r7t2 [] [1, 33, 34, 35, 36]) (opsC [] s_gnomonref01_Add_r7p1 [34] (evOps call base [⟨some 35, (.buildSl 1 1 [(.s (.int .i64 0))] [(0, (.t 34))]), none⟩] f H)) := (row_op call it base s_gnomonref01_Add_r7p1 s_gnomonref01_Add_r7t2 (kc := [34]) (by kernel_rfl) f H).trans (by rw [row_ops]; rfl)
theorem s_gnomonref01_Add_r7t2_x (call : CallF) (it : IterF) (base : Nat) (f : List V) (H : Heap) : evC call it base (.region s_gnomonref01_Add_r7t2 [] [1, 33, 34, 35, 36]) f H = thenC call it base (.region s_gnomonref01_Add_r7t3 [] [1, 33, 34, 35, 36]) (opsC [] s_gnomonref01_Add_r7p2 [33, 35] (evOps call base [⟨some 36, (.append 1 8 (.t 33) (.t 35)), none⟩] f H)) := (row_op call it base s_gnomonref01_Add_r7p2 s_gnomonref01_Add_r7t3 (kc := [33, 35]) (by kernel_rfl) f H).trans (by rw [row_ops]; rfl)
theorem s_gnomonref01_Add_r7t3_tale (fr : List V) (H : Heap) : evTale (symAll s_gnomonref01_Add_r7t3 [1, 33, 34, 35, 36] [6]) [1, 33, 34, 35, 36] fr H = evTale (some (7, [], [(6, (.t 36))])) [1, 33, 34, 35, 36] fr H := tale_row (items := [.tt 36]) (by kernel_rfl) fr H
theorem s_gnomonref01_Add_r7t3_x (call : CallF) (it : IterF) (base : Nat) (f : List V) (H : Heap) : evC call it base (.region s_gnomonref01_Add_r7t3 [] [1, 33, 34, 35, 36]) f H = segL H (evTale (symAll s_gnomonref01_Add_r7t3 [1, 33, 34, 35, 36] [6]) [1, 33, 34, 35, 36] f H) (origRow call it base s_gnomonref01_Add_r7t3 [1, 33, 34, 35, 36] f H) := row_last call it base _ f H
def s_gnomonref01_Add_r8t2 : List AOper := [⟨some 4, (.move (.t 41)), none⟩]
def s_gnomonref01_Add_r8p1 : List AOper := [⟨some 41, (.append 1 8 (.t 37) (.t 40)), none⟩]
def s_gnomonref01_Add_r8t1 : List AOper := s_gnomonref01_Add_r8p1 ++ s_gnomonref01_Add_r8t2
def s_gnomonref01_Add_r8p0 : List AOper := [⟨some 37, (.move (.t 6)), none⟩, ⟨some 38, (.move (.t 0)), none⟩, ⟨some 39, (.move (.t 5)), none⟩, ⟨some 40, (.subSl 1 (.t 38) (some (.t 39)) none none), none⟩]
def s_gnomonref01_Add_r8 : List AOper := s_gnomonref01_Add_r8p0 ++ s_gnomonref01_Add_r8t1
theorem s_gnomonref01_Add_r8p0_tale (fr : List V) (H : Heap) : evTale (symAll s_gnomonref01_Add_r8p0 [0, 5, 6, 38, 39] [37, 40]) [0, 5, 6, 38, 39] fr H = evTale (some (41, [], [(37, (.t 6)), (40, (.op (.subSl 1 (.t 0) (some (.t 1)) none none) [(.t 0), (.t 5)]))])) [0, 5, 6, 38, 39] fr H := tale_row (items := [.tt 6, .tt 0, .tt 5, .sub 1 [] []]) (by kernel_rfl) fr H
theorem s_gnomonref01_Add_r8_x (call : CallF) (it : IterF) (base : Nat) (f : List V) (H : Heap) : evC call it base (.region s_gnomonref01_Add_r8 [] [0, 5, 6, 37, 38, 39, 40, 41]) f H = segC call it base s_gnomonref01_Add_r8t1 [0, 5, 6, 37, 38, 39, 40, 41] H (evTale (symAll s_gnomonref01_Add_r8p0 [0, 5, 6, 38, 39] [37, 40]) [0, 5, 6, 38, 39] f H) (origRow call it base s_gnomonref01_Add_r8 [0, 5, 6, 37, 38, 39, 40, 41] f H) := row_seg call it base s_gnomonref01_Add_r8p0 s_gnomonref01_Add_r8t1 (by kernel_rfl) f H
theorem s_gnomonref01_Add_r8t1_x (call : CallF) (it : IterF) (base : Nat) (f : List V) (H : Heap) : evC call it base (.region s_gnomonref01_Add_r8t1 [] [0, 5, 6, 37, 38, 39, 40, 41]) f H = thenC call it base (.region s_gnomonref01_Add_r8t2 [] [0, 5, 6, 37, 38, 39, 40, 41]) (opsC [] s_gnomonref01_Add_r8p1 [37, 40] (evOps call base [⟨some 41, (.append 1 8 (.t 37) (.t 40)), none⟩] f H)) := (row_op call it base s_gnomonref01_Add_r8p1 s_gnomonref01_Add_r8t2 (kc := [37, 40]) (by kernel_rfl) f H).trans (by rw [row_ops]; rfl)
theorem s_gnomonref01_Add_r8t2_tale (fr : List V) (H : Heap) : evTale (symAll s_gnomonref01_Add_r8t2 [0, 5, 6, 37, 38, 39, 40, 41] [4]) [0, 5, 6, 37, 38, 39, 40, 41] fr H = evTale (some (5, [], [(4, (.t 41))])) [0, 5, 6, 37, 38, 39, 40, 41] fr H := tale_row (items := [.tt 41]) (by kernel_rfl) fr H
theorem s_gnomonref01_Add_r8t2_x (call : CallF) (it : IterF) (base : Nat) (f : List V) (H : Heap) : evC call it base (.region s_gnomonref01_Add_r8t2 [] [0, 5, 6, 37, 38, 39, 40, 41]) f H = segL H (evTale (symAll s_gnomonref01_Add_r8t2 [0, 5, 6, 37, 38, 39, 40, 41] [4]) [0, 5, 6, 37, 38, 39, 40, 41] f H) (origRow call it base s_gnomonref01_Add_r8t2 [0, 5, 6, 37, 38, 39, 40, 41] f H) := row_last call it base _ f H
def s_gnomonref01_Add : ACFun := { ntmps := 42, results := [(.tmp 4)], body :=
  (.seq (.regionE s_gnomonref01_Add_r0 s_gnomonref01_Add_r0_k [])
  (.seq (.seq (.region s_gnomonref01_Add_r1 [] [7, 8, 9, 10, 11, 12])
  (.cond (.t 13)
  (.seq (.regionE s_gnomonref01_Add_r2 [0, 1, 13, 14] [4])
  .ret)
  .skip))
  (.seq (.regionE s_gnomonref01_Add_r3 [13] [5])
  (.seq (.block 0
  (.loop [] s_gnomonref01_Add_l0))
  (.seq (.region s_gnomonref01_Add_r6 [] [26, 29, 30, 31, 32])
  (.seq (.region s_gnomonref01_Add_r7 [] [1, 33, 34, 35, 36])
  (.seq (.region s_gnomonref01_Add_r8 [] [0, 5, 6, 37, 38, 39, 40, 41])
  .ret))))))) }
abbrev k_gnomonref01_Has : Nat := 23
def s_gnomonref01_Has_r0_k : List Nat := [2, 3, 4, 5, 6, 7, 8, 9, 10, 11, 12, 13, 14, 15, 16, 17]
theorem s_gnomonref01_Has_r0_kT : killV s_gnomonref01_Has_r0_k (startV 18 [] 2) = [] := by kernel_rfl
theorem s_gnomonref01_Has_r0_kA0 : s_gnomonref01_Has_r0_k.contains 0 = false := by kernel_rfl
theorem s_gnomonref01_Has_r0_kA1 : s_gnomonref01_Has_r0_k.contains 1 = false := by kernel_rfl
def s_gnomonref01_Has_r0 : List AOper := [
  ⟨some 4, (.move (.c (.s (.bool false)))), none⟩]
theorem s_gnomonref01_Has_r0_tale (fr : List V) (H : Heap) : evTale (symAll s_gnomonref01_Has_r0 s_gnomonref01_Has_r0_k []) s_gnomonref01_Has_r0_k fr H = evTale (some (5, [], [])) s_gnomonref01_Has_r0_k fr H := tale_row (items := [.cc (.s (.bool false))]) (by kernel_rfl) fr H
def s_gnomonref01_Has_r1 : List AOper := [
  ⟨some 5, (.move (.c (.s (.int .i64 0)))), none⟩]
theorem s_gnomonref01_Has_r1_tale (fr : List V) (H : Heap) : evTale (symAll s_gnomonref01_Has_r1 [] [5]) [] fr H = evTale (some (6, [], [(5, (.c (.s (.int .i64 0))))])) [] fr H := tale_row (items := [.cc (.s (.int .i64 0))]) (by kernel_rfl) fr H
def s_gnomonref01_Has_r2 : List AOper := [
  ⟨some 6, (.move (.t 5)), none⟩,
  ⟨some 7, (.move (.t 0)), none⟩,
  ⟨some 8, (.lenS .s (.t 7)), none⟩,
  ⟨some 9, (.bin .lss (.t 6) (.t 8)), none⟩]
theorem s_gnomonref01_Has_r2_tale (fr : List V) (H : Heap) : evTale (symAll s_gnomonref01_Has_r2 [6, 7, 8] [9]) [6, 7, 8] fr H = evTale (some (10, [], [(9, (.op (.bin .lss (.t 0) (.t 1)) [(.t 5), (.op (.lenS .s (.t 0)) [(.t 0)])]))])) [6, 7, 8] fr H := tale_row (items := [.tt 5, .tt 0, .sub 0 [1] [], .sub 0 [] []]) (by kernel_rfl) fr H
def s_gnomonref01_Has_r3 : List AOper := [
  ⟨some 12, (.move (.t 0)), none⟩,
  ⟨some 13, (.move (.t 5)), none⟩,
  ⟨some 14, (.indexAddr 1 (.t 12) (.t 13)), none⟩,
  ⟨some 15, (.load false 1 (.t 14)), none⟩,
  ⟨some 16, (.move (.t 1)), none⟩,
  ⟨some 17, (.bin .eql (.t 15) (.t 16)), none⟩]
theorem s_gnomonref01_Has_r3_tale (fr : List V) (H : Heap) : evTale (symAll s_gnomonref01_Has_r3 [9, 12, 13, 14, 15, 16] [17]) [9, 12, 13, 14, 15, 16] fr H = evTale (some (18, [], [(17, (.op (.bin .eql (.t 0) (.t 1)) [(.op (.load false 1 (.t 0)) [(.op (.indexAddr 1 (.t 0) (.t 1)) [(.t 0), (.t 5)])]), (.t 1)]))])) [9, 12, 13, 14, 15, 16] fr H := tale_row (items := [.tt 0, .tt 5, .sub 0 [0, 0] [], .sub 0 [0] [], .tt 1, .sub 0 [] []]) (by kernel_rfl) fr H
def s_gnomonref01_Has_r4 : List AOper := [
  ⟨some 4, (.move (.c (.s (.bool true)))), none⟩]
theorem s_gnomonref01_Has_r4_tale (fr : List V) (H : Heap) : evTale (symAll s_gnomonref01_Has_r4 [0, 1, 5, 17] [4]) [0, 1, 5, 17] fr H = evTale (some (5, [], [(4, (.c (.s (.bool true))))])) [0, 1, 5, 17] fr H := tale_row (items := [.cc (.s (.bool true))]) (by kernel_rfl) fr H
def s_gnomonref01_Has_r5 : List AOper := [
  ⟨some 10, (.move (.t 5)), none⟩,
  ⟨some 11, (.bin .add (.t 10) (.c (.s (.int .i64 1)))), none⟩,
  ⟨some 5, (.move (.t 11)), none⟩]
theorem s_gnomonref01_Has_r5_tale (fr : List V) (H : Heap) : evTale (symAll s_gnomonref01_Has_r5 [10, 11, 17] [5]) [10, 11, 17] fr H = evTale (some (12, [], [(5, (.op (.bin .add (.t 0) (.c (.s (.int .i64 1)))) [(.t 5), (.c (.s (.int .i64 1)))]))])) [10, 11, 17] fr H := tale_row (items := [.tt 5, .sub 0 [] [], .sub 0 [] []]) (by kernel_rfl) fr H
def s_gnomonref01_Has_l0_b : ACode :=
  (.seq (.seq (.regionE s_gnomonref01_Has_r2 [6, 7, 8] [9])
  (.cond (.t 9)
  .skip
  (.exit 0)))
  (.seq (.block 1
  (.seq (.regionE s_gnomonref01_Has_r3 [9, 12, 13, 14, 15, 16] [17])
  (.cond (.t 17)
  (.seq (.regionE s_gnomonref01_Has_r4 [0, 1, 5, 17] [4])
  .ret)
  .skip)))
  (.regionE s_gnomonref01_Has_r5 [10, 11, 17] [5])))
def s_gnomonref01_Has_l0 : ACode := s_gnomonref01_Has_l0_b
theorem s_gnomonref01_Has_l0_ev (call : CallF) (it : IterF) (base : Nat) (fr : List V) (H : Heap) : evC call it base s_gnomonref01_Has_l0 fr H = evC call it base s_gnomonref01_Has_l0_b fr H := rfl
def s_gnomonref01_Has_r6 : List AOper := [
  ⟨some 4, (.move (.c (.s (.bool false)))), none⟩]
theorem s_gnomonref01_Has_r6_tale (fr : List V) (H : Heap) : evTale (symAll s_gnomonref01_Has_r6 [0, 1, 5, 9] [4]) [0, 1, 5, 9] fr H = evTale (some (5, [], [(4, (.c (.s (.bool false))))])) [0, 1, 5, 9] fr H := tale_row (items := [.cc (.s (.bool false))]) (by kernel_rfl) fr H
def s_gnomonref01_Has : ACFun := { ntmps := 18, results := [(.tmp 4)], body :=
  (.seq (.regionE s_gnomonref01_Has_r0 s_gnomonref01_Has_r0_k [])
  (.seq (.seq (.regionE s_gnomonref01_Has_r1 [] [5])
  (.block 0
  (.loop [] s_gnomonref01_Has_l0)))
  (.seq (.regionE s_gnomonref01_Has_r6 [0, 1, 5, 9] [4])
  .ret))) }
abbrev k_gnomonref01_Union : Nat := 24
def s_gnomonref01_Union_r0_k : List Nat := [2, 3, 4, 5, 6, 7, 8, 9, 10, 11, 12, 13, 14, 15, 16, 17, 18]
theorem s_gnomonref01_Union_r0_kT : killV s_gnomonref01_Union_r0_k (startV 19 [] 2) = [] := by kernel_rfl
theorem s_gnomonref01_Union_r0_kA0 : s_gnomonref01_Union_r0_k.contains 0 = false := by kernel_rfl
theorem s_gnomonref01_Union_r0_kA1 : s_gnomonref01_Union_r0_k.contains 1 = false := by kernel_rfl
def s_gnomonref01_Union_r0 : List AOper := [
  ⟨some 4, (.move (.c (.s (.slice none 0 0)))), none⟩]
theorem s_gnomonref01_Union_r0_tale (fr : List V) (H : Heap) : evTale (symAll s_gnomonref01_Union_r0 s_gnomonref01_Union_r0_k []) s_gnomonref01_Union_r0_k fr H = evTale (some (5, [], [])) s_gnomonref01_Union_r0_k fr H := tale_row (items := [.cc (.s (.slice none 0 0))]) (by kernel_rfl) fr H
def s_gnomonref01_Union_r1 : List AOper := [
  ⟨some 5, (.move (.c (.s (.int .i64 0)))), none⟩]
theorem s_gnomonref01_Union_r1_tale (fr : List V) (H : Heap) : evTale (symAll s_gnomonref01_Union_r1 [] [5]) [] fr H = evTale (some (6, [], [(5, (.c (.s (.int .i64 0))))])) [] fr H := tale_row (items := [.cc (.s (.int .i64 0))]) (by kernel_rfl) fr H
def s_gnomonref01_Union_r2 : List AOper := [
  ⟨some 6, (.move (.t 5)), none⟩,
  ⟨some 7, (.move (.t 1)), none⟩,
  ⟨some 8, (.lenS .s (.t 7)), none⟩,
  ⟨some 9, (.bin .lss (.t 6) (.t 8)), none⟩]
theorem s_gnomonref01_Union_r2_tale (fr : List V) (H : Heap) : evTale (symAll s_gnomonref01_Union_r2 [6, 7, 8] [9]) [6, 7, 8] fr H = evTale (some (10, [], [(9, (.op (.bin .lss (.t 0) (.t 1)) [(.t 5), (.op (.lenS .s (.t 0)) [(.t 1)])]))])) [6, 7, 8] fr H := tale_row (items := [.tt 5, .tt 1, .sub 0 [1] [], .sub 0 [] []]) (by kernel_rfl) fr H
def s_gnomonref01_Union_r3t2 : List AOper := [⟨some 0, (.move (.t 17)), none⟩]
def s_gnomonref01_Union_r3p1 : List AOper := [⟨some 17, (.call (.c (.fn 20 [] [])) [(.t 12), (.t 16)]), none⟩]
def s_gnomonref01_Union_r3t1 : List AOper := s_gnomonref01_Union_r3p1 ++ s_gnomonref01_Union_r3t2
def s_gnomonref01_Union_r3p0 : List AOper := [⟨some 12, (.move (.t 0)), none⟩, ⟨some 13, (.move (.t 1)), none⟩, ⟨some 14, (.move (.t 5)), none⟩, ⟨some 15, (.indexAddr 1 (.t 13) (.t 14)), none⟩, ⟨some 16, (.load false 1 (.t 15)), none⟩]
def s_gnomonref01_Union_r3 : List AOper := s_gnomonref01_Union_r3p0 ++ s_gnomonref01_Union_r3t1
theorem s_gnomonref01_Union_r3p0_tale (fr : List V) (H : Heap) : evTale (symAll s_gnomonref01_Union_r3p0 [0, 9, 13, 14, 15] [12, 16]) [0, 9, 13, 14, 15] fr H = evTale (some (17, [], [(12, (.t 0)), (16, (.op (.load false 1 (.t 0)) [(.op (.indexAddr 1 (.t 0) (.t 1)) [(.t 1), (.t 5)])]))])) [0, 9, 13, 14, 15] fr H := tale_row (items := [.tt 0, .tt 1, .tt 5, .sub 1 [0] [], .sub 1 [] []]) (by kernel_rfl) fr H
theorem s_gnomonref01_Union_r3_x (call : CallF) (it : IterF) (base : Nat) (f : List V) (H : Heap) : evC call it base (.region s_gnomonref01_Union_r3 [] [9, 12, 13, 14, 15, 16, 17]) f H = segC call it base s_gnomonref01_Union_r3t1 [9, 12, 13, 14, 15, 16, 17] H (evTale (symAll s_gnomonref01_Union_r3p0 [0, 9, 13, 14, 15] [12, 16]) [0, 9, 13, 14, 15] f H) (origRow call it base s_gnomonref01_Union_r3 [9, 12, 13, 14, 15, 16, 17] f H) := row_seg call it base s_gnomonref01_Union_r3p0 s_gnomonref01_Union_r3t1 (by kernel_rfl) f H
theorem s_gnomonref01_Union_r3t1_x (call : CallF) (it : IterF) (base : Nat) (f : List V) (H : Heap) : evC call it base (.region s_gnomonref01_Union_r3t1 [] [9, 12, 13, 14, 15, 16, 17]) f H = thenC call it base (.region s_gnomonref01_Union_r3t2 [] [9, 12, 13, 14, 15, 16, 17]) (opsC [] s_gnomonref01_Union_r3p1 [12, 16] (evOps call base [⟨some 17, (.call (.c (.fn 20 [] [])) [(.t 12), (.t 16)]), none⟩] f H)) := (row_op call it base s_gnomonref01_Union_r3p1 s_gnomonref01_Union_r3t2 (kc := [12, 16]) (by kernel_rfl) f H).trans (by rw [row_ops]; rfl)
theorem s_gnomonref01_Union_r3t2_tale (fr : List V) (H : Heap) : evTale (symAll s_gnomonref01_Union_r3t2 [9, 12, 13, 14, 15, 16, 17] [0]) [9, 12, 13, 14, 15, 16, 17] fr H = evTale (some (1, [], [(0, (.t 17))])) [9, 12, 13, 14, 15, 16, 17] fr H := tale_row (items := [.tt 17]) (by kernel_rfl) fr H
theorem s_gnomonref01_Union_r3t2_x (call : CallF) (it : IterF) (base : Nat) (f : List V) (H : Heap) : evC call it base (.region s_gnomonref01_Union_r3t2 [] [9, 12, 13, 14, 15, 16, 17]) f H = segL H (evTale (symAll s_gnomonref01_Union_r3t2 [9, 12, 13, 14, 15, 16, 17] [0]) [9, 12, 13, 14, 15, 16, 17] f H) (origRow call it base s_gnomonref01_Union_r3t2 [9, 12, 13, 14, 15, 16, 17] f H) := row_last call it base _ f H
def s_gnomonref01_Union_r4 : List AOper := [
  ⟨some 10, (.move (.t 5)), none⟩,
  ⟨some 11, (.bin .add (.t 10) (.c (.s (.int .i64 1)))), none⟩,
  ⟨some 5, (.move (.t 11)), none⟩]
theorem s_gnomonref01_Union_r4_tale (fr : List V) (H : Heap) : evTale (symAll s_gnomonref01_Union_r4 [10, 11] [5]) [10, 11] fr H = evTale (some (12, [], [(5, (.op (.bin .add (.t 0) (.c (.s (.int .i64 1)))) [(.t 5), (.c (.s (.int .i64 1)))]))])) [10, 11] fr H := tale_row (items := [.tt 5, .sub 0 [] [], .sub 0 [] []]) (by kernel_rfl) fr H
def s_gnomonref01_Union_l0_b : ACode :=
  (.seq (.seq (.regionE s_gnomonref01_Union_r2 [6, 7, 8] [9])
  (.cond (.t 9)
  .skip
  (.exit 0)))
  (.seq (.block 1
  (.region s_gnomonref01_Union_r3 [] [9, 12, 13, 14, 15, 16, 17]))
  (.regionE s_gnomonref01_Union_r4 [10, 11] [5])))
def s_gnomonref01_Union_l0 : ACode := s_gnomonref01_Union_l0_b
theorem s_gnomonref01_Union_l0_ev (call : CallF) (it : IterF) (base : Nat) (fr : List V) (H : Heap) : evC call it base s_gnomonref01_Union_l0 fr H = evC call it base s_gnomonref01_Union_l0_b fr H := rfl
def s_gnomonref01_Union_r5 : List AOper := [
  ⟨some 18, (.move (.t 0)), none⟩,
  ⟨some 4, (.move (.t 18)), none⟩]
theorem s_gnomonref01_Union_r5_tale (fr : List V) (H : Heap) : evTale (symAll s_gnomonref01_Union_r5 [0, 1, 5, 9, 18] [4]) [0, 1, 5, 9, 18] fr H = evTale (some (19, [], [(4, (.t 0))])) [0, 1, 5, 9, 18] fr H := tale_row (items := [.tt 0, .tt 0]) (by kernel_rfl) fr H
def s_gnomonref01_Union : ACFun := { ntmps := 19, results := [(.tmp 4)], body :=
  (.seq (.regionE s_gnomonref01_Union_r0 s_gnomonref01_Union_r0_k [])
  (.seq (.seq (.regionE s_gnomonref01_Union_r1 [] [5])
  (.block 0
  (.loop [] s_gnomonref01_Union_l0)))
  (.seq (.regionE s_gnomonref01_Union_r5 [0, 1, 5, 9, 18] [4])
  .ret))) }
def a_gnomonref01_Of := And.intro @s_gnomonref01_Of_r0_tale (And.intro @s_gnomonref01_Of_r0_kT (And.intro @s_gnomonref01_Of_r0_kA0 (And.intro @s_gnomonref01_Of_r1_tale (And.intro @s_gnomonref01_Of_r2_tale (And.intro @s_gnomonref01_Of_r3_tale (And.intro @s_gnomonref01_Of_r4p0_tale (And.intro @s_gnomonref01_Of_r4_x (And.intro @s_gnomonref01_Of_r4t1_x (And.intro @s_gnomonref01_Of_r4t2_tale (And.intro @s_gnomonref01_Of_r4t2_x (And.intro @s_gnomonref01_Of_r5_tale (And.intro @s_gnomonref01_Of_l0_ev (@s_gnomonref01_Of_r6_tale)))))))))))))
def a_gnomonref01_Same := And.intro @s_gnomonref01_Same_r0_tale (And.intro @s_gnomonref01_Same_r0_kT (And.intro @s_gnomonref01_Same_r0_kA0 (And.intro @s_gnomonref01_Same_r0_kA1 (And.intro @s_gnomonref01_Same_r1_tale (And.intro @s_gnomonref01_Same_r2_tale (And.intro @s_gnomonref01_Same_r3_tale (And.intro @s_gnomonref01_Same_r4_tale (And.intro @s_gnomonref01_Same_r5_tale (And.intro @s_gnomonref01_Same_r6_tale (And.intro @s_gnomonref01_Same_r7_tale (And.intro @s_gnomonref01_Same_l0_ev (@s_gnomonref01_Same_r8_tale))))))))))))
def a_gnomonref25_Store := And.intro @s_gnomonref25_Store_r0_tale (And.intro @s_gnomonref25_Store_r0_kT (And.intro @s_gnomonref25_Store_r0_kA0 (And.intro @s_gnomonref25_Store_r0_kA1 (And.intro @s_gnomonref25_Store_r0_kA2 (And.intro @s_gnomonref25_Store_r0_kA3 (And.intro @s_gnomonref25_Store_r0_kA4 (And.intro @s_gnomonref25_Store_r1_tale (And.intro @s_gnomonref25_Store_r2_tale (And.intro @s_gnomonref25_Store_r3p0_tale (And.intro @s_gnomonref25_Store_r3_x (And.intro @s_gnomonref25_Store_r3t1_x (And.intro @s_gnomonref25_Store_r3t2_tale (And.intro @s_gnomonref25_Store_r3t2_x (And.intro @s_gnomonref25_Store_r4_tale (And.intro @s_gnomonref25_Store_r5_tale (And.intro @s_gnomonref25_Store_r6_tale (And.intro @s_gnomonref25_Store_r7p0_tale (And.intro @s_gnomonref25_Store_r7_x (And.intro @s_gnomonref25_Store_r7t1_x (And.intro @s_gnomonref25_Store_r7t2_tale (@s_gnomonref25_Store_r7t2_x)))))))))))))))))))))
def a_gnomonref25_Call := And.intro @s_gnomonref25_Call_r0_tale (And.intro @s_gnomonref25_Call_r0_kT (And.intro @s_gnomonref25_Call_r0_kA0 (And.intro @s_gnomonref25_Call_r0_kA1 (And.intro @s_gnomonref25_Call_r1_tale (And.intro @s_gnomonref25_Call_r2_tale (And.intro @s_gnomonref25_Call_r3_tale (And.intro @s_gnomonref25_Call_r4_tale (And.intro @s_gnomonref25_Call_r5p0_tale (And.intro @s_gnomonref25_Call_r5_x (And.intro @s_gnomonref25_Call_r5t1_x (And.intro @s_gnomonref25_Call_r5t2_tale (And.intro @s_gnomonref25_Call_r5t2_x (And.intro @s_gnomonref25_Call_r6p0_tale (And.intro @s_gnomonref25_Call_r6_x (And.intro @s_gnomonref25_Call_r6t1_x (And.intro @s_gnomonref25_Call_r6t2_tale (And.intro @s_gnomonref25_Call_r6t2_x (And.intro @s_gnomonref25_Call_r7_tale (And.intro @s_gnomonref25_Call_l0_ev (@s_gnomonref25_Call_r8_tale))))))))))))))))))))
def a_gnomonref01_Add := And.intro @s_gnomonref01_Add_r0_tale (And.intro @s_gnomonref01_Add_r0_kT (And.intro @s_gnomonref01_Add_r0_kA0 (And.intro @s_gnomonref01_Add_r0_kA1 (And.intro @s_gnomonref01_Add_r1p0_tale (And.intro @s_gnomonref01_Add_r1_x (And.intro @s_gnomonref01_Add_r1t1_x (And.intro @s_gnomonref01_Add_r1t2_x (And.intro @s_gnomonref01_Add_r1t3_x (And.intro @s_gnomonref01_Add_r1t4_tale (And.intro @s_gnomonref01_Add_r1t4_x (And.intro @s_gnomonref01_Add_r2_tale (And.intro @s_gnomonref01_Add_r3_tale (And.intro @s_gnomonref01_Add_r4_tale (And.intro @s_gnomonref01_Add_r5_tale (And.intro @s_gnomonref01_Add_l0_ev (And.intro @s_gnomonref01_Add_r6p0_tale (And.intro @s_gnomonref01_Add_r6_x (And.intro @s_gnomonref01_Add_r6t1_x (And.intro @s_gnomonref01_Add_r6t2_tale (And.intro @s_gnomonref01_Add_r6t2_x (And.intro @s_gnomonref01_Add_r7p0_tale (And.intro @s_gnomonref01_Add_r7_x (And.intro @s_gnomonref01_Add_r7t1_x (And.intro @s_gnomonref01_Add_r7t2_x (And.intro @s_gnomonref01_Add_r7t3_tale (And.intro @s_gnomonref01_Add_r7t3_x (And.intro @s_gnomonref01_Add_r8p0_tale (And.intro @s_gnomonref01_Add_r8_x (And.intro @s_gnomonref01_Add_r8t1_x (And.intro @s_gnomonref01_Add_r8t2_tale (@s_gnomonref01_Add_r8t2_x)))))))))))))))))))))))))))))))
def a_gnomonref01_Has := And.intro @s_gnomonref01_Has_r0_tale (And.intro @s_gnomonref01_Has_r0_kT (And.intro @s_gnomonref01_Has_r0_kA0 (And.intro @s_gnomonref01_Has_r0_kA1 (And.intro @s_gnomonref01_Has_r1_tale (And.intro @s_gnomonref01_Has_r2_tale (And.intro @s_gnomonref01_Has_r3_tale (And.intro @s_gnomonref01_Has_r4_tale (And.intro @s_gnomonref01_Has_r5_tale (And.intro @s_gnomonref01_Has_l0_ev (@s_gnomonref01_Has_r6_tale))))))))))
def a_gnomonref01_Union := And.intro @s_gnomonref01_Union_r0_tale (And.intro @s_gnomonref01_Union_r0_kT (And.intro @s_gnomonref01_Union_r0_kA0 (And.intro @s_gnomonref01_Union_r0_kA1 (And.intro @s_gnomonref01_Union_r1_tale (And.intro @s_gnomonref01_Union_r2_tale (And.intro @s_gnomonref01_Union_r3p0_tale (And.intro @s_gnomonref01_Union_r3_x (And.intro @s_gnomonref01_Union_r3t1_x (And.intro @s_gnomonref01_Union_r3t2_tale (And.intro @s_gnomonref01_Union_r3t2_x (And.intro @s_gnomonref01_Union_r4_tale (And.intro @s_gnomonref01_Union_l0_ev (@s_gnomonref01_Union_r5_tale)))))))))))))
theorem CB2_8 : compK Tryd.prog PX0 8 = some (false, s_gnomonref01_Of.ntmps, s_gnomonref01_Of.results, s_gnomonref01_Of.body.bare) := by kernel_rfl
theorem CB2_11 : compK Tryd.prog PX0 11 = some (false, s_gnomonref01_Same.ntmps, s_gnomonref01_Same.results, s_gnomonref01_Same.body.bare) := by kernel_rfl
theorem CB2_20 : compK Tryd.prog PX0 20 = some (false, s_gnomonref01_Add.ntmps, s_gnomonref01_Add.results, s_gnomonref01_Add.body.bare) := by kernel_rfl
theorem CB2_23 : compK Tryd.prog PX0 23 = some (false, s_gnomonref01_Has.ntmps, s_gnomonref01_Has.results, s_gnomonref01_Has.body.bare) := by kernel_rfl
theorem CB2_24 : compK Tryd.prog PX0 24 = some (false, s_gnomonref01_Union.ntmps, s_gnomonref01_Union.results, s_gnomonref01_Union.body.bare) := by kernel_rfl
theorem CB2_13 : compK Tryd.prog PX0 13 = some (false, s_gnomonref25_Store.ntmps, s_gnomonref25_Store.results, s_gnomonref25_Store.body.bare) := by kernel_rfl
theorem CB2_14 : compK Tryd.prog PX0 14 = some (false, s_gnomonref25_Call.ntmps, s_gnomonref25_Call.results, s_gnomonref25_Call.body.bare) := by kernel_rfl
end Go.Proofs.YtlclbbieacjmfaaDoor
set_option maxRecDepth 100000
namespace Go.Proofs.YtlclbbieacjmfaaDoor
open Go.AM
theorem drop_cons {α : Type} {l r : List α} {x : α} {k : Nat} (h : l.drop k = x :: r) : l[k]? = some x ∧ k < l.length ∧ l.drop (k + 1) = r := by
  have hx : l[k]? = some x := by have := congrArg (·[0]?) h; simp only [List.getElem?_drop] at this; exact this
  exact ⟨hx, (List.getElem?_eq_some_iff.1 hx).1, by rw [← List.drop_drop, h]; rfl⟩
theorem drop_nil {α : Type} {l : List α} {k : Nat} (h : l.drop k = []) (hk : k ≤ l.length) : k = l.length := by
  have := congrArg List.length h
  simp at this
  omega
theorem iV_at {H : Heap} {v : V} {l : List Int} (h : Rd H v (l.map iV)) (hw : Wide1 v) {k : Nat} {x : Int} (hx : l[k]? = some x) : ∃ a, xIndexAddr 1 v (.s (.int .i64 k)) = some a ∧ xLoad H false 1 a = some (.s (.int .i64 x)) := h.at' hw (by rw [List.getElem?_map, hx]; rfl)
theorem iV_len {H : Heap} {v : V} {l : List Int} (h : Rd H v (l.map iV)) : xLen H .s v = some (.s (.int .i64 l.length)) := by have := h.len; rwa [List.length_map] at this
theorem rhas_loop (call : CallF) (base : Nat) (H : Heap) (v : V) (l : List Int) (y : Int) (hv : Rd H v (l.map iV)) (hw : Wide1 v) (hn : l.length < 2 ^ 62) : ∀ (r : List Int) (k : Nat), l.drop k = r → k ≤ l.length →
    itW (evC call itW base s_gnomonref01_Has_l0) [] H.length (frOf 18 [(0, v), (1, .s (.int .i64 y)), (5, .s (.int .i64 k))]) H =
      bif r.contains y then some (.ret, frOf 18 [(4, .s (.bool true))], H) else some (.ext 0, frOf 18 [(0, v), (1, .s (.int .i64 y)), (5, .s (.int .i64 l.length)), (9, .s (.bool false))], H) := by
  intro r
  induction r with
  | nil =>
    intro k hd hk
    obtain rfl := drop_nil hd hk
    rw [itW_step]
    simp only [a_gnomonref01_Has,s_gnomonref01_Has_l0_b, am0,am1,am2,am3,am4,am5,am6,am7,bl,i64,reduceIte,reduceCtorEq,Nat.reduceEqDiff,Nat.reduceLT,Nat.reduceLeDiff,Nat.reduceBEq,Nat.reduceAdd,fillA,splice,Nat.reduceMul,al0,al1,al2,al3,al4,al5,al6,al7,al8,al9,al10,al11,al12,al13,al14,al15,al16,al17,al18,al19,al20,al21,al22,al23,al24,al25,al26,al27,al28,al29,al30,al31,al32,al33,al34,amY,op_eqP, iV_len hv, Int.lt_irrefl, trim_same rfl, List.contains_nil]
  | cons x r ih =>
    intro k hd hk
    obtain ⟨hx, hlt, hd'⟩ := drop_cons hd
    obtain ⟨a, ha1, ha2⟩ := iV_at hv hw hx
    have hlt' : (k : Int) < (l.length : Int) := by omega
    have hwk := wrap_pos (n := k) (by omega)
    rw [itW_step]
    cases hxy : x == y with
    | true =>
      have : (x :: r).contains y = true := by rw [List.contains_cons, beq_iff_eq.1 hxy]; simp
      simp only [a_gnomonref01_Has,s_gnomonref01_Has_l0_b, am0,am1,am2,am3,am4,am5,am6,am7,bl,i64,reduceIte,reduceCtorEq,Nat.reduceEqDiff,Nat.reduceLT,Nat.reduceLeDiff,Nat.reduceBEq,Nat.reduceAdd,fillA,splice,Nat.reduceMul,al0,al1,al2,al3,al4,al5,al6,al7,al8,al9,al10,al11,al12,al13,al14,al15,al16,al17,al18,al19,al20,al21,al22,al23,al24,al25,al26,al27,al28,al29,al30,al31,al32,al33,al34,amY,op_eqP, iV_len hv, hlt', ha1, ha2, hxy, trim_same rfl, this]
    | false =>
      have : (x :: r).contains y = r.contains y := by
        have : (y == x) = false := by rw [beq_eq_false_iff_ne] at hxy ⊢; exact fun e => hxy e.symm
        rw [List.contains_cons, this, Bool.false_or]
      simp only [a_gnomonref01_Has,s_gnomonref01_Has_l0_b, am0,am1,am2,am3,am4,am5,am6,am7,bl,i64,reduceIte,reduceCtorEq,Nat.reduceEqDiff,Nat.reduceLT,Nat.reduceLeDiff,Nat.reduceBEq,Nat.reduceAdd,fillA,splice,Nat.reduceMul,al0,al1,al2,al3,al4,al5,al6,al7,al8,al9,al10,al11,al12,al13,al14,al15,al16,al17,al18,al19,al20,al21,al22,al23,al24,al25,al26,al27,al28,al29,al30,al31,al32,al33,al34,amY,op_eqP, iV_len hv, hlt', ha1, ha2, hxy, hwk, trim_same rfl, this]
      exact ih (k + 1) hd' (by omega)
theorem rhas_fun {CT : Nat → Option CFun} (hT : CT k_gnomonref01_Has = some (.code s_gnomonref01_Has)) (base : Nat) (H : Heap) (v : V) (l : List Int) (y : Int) (hv : Rd H v (l.map iV)) (hw : Wide1 v) (hn : l.length < 2 ^ 62) :
    callW CT (.fn k_gnomonref01_Has [] []) [v, .s (.int .i64 y)] base H = some (.s (.bool (l.contains y)), H) := by
  refine callW_fn (c := s_gnomonref01_Has) hT (by simp [s_gnomonref01_Has]) ?_
  have hl := rhas_loop (callW CT) base H v l y hv hw hn l 0 rfl (Nat.zero_le _)
  rw [cast0] at hl
  simp only [s_gnomonref01_Has, a_gnomonref01_Has,s_gnomonref01_Has_l0_b, am0,am1,am2,am3,am4,am5,am6,am7,bl,i64,reduceIte,reduceCtorEq,Nat.reduceEqDiff,Nat.reduceLT,Nat.reduceLeDiff,Nat.reduceBEq,Nat.reduceAdd,fillA,splice,Nat.reduceMul,al0,al1,al2,al3,al4,al5,al6,al7,al8,al9,al10,al11,al12,al13,al14,al15,al16,al17,al18,al19,al20,al21,al22,al23,al24,al25,al26,al27,al28,al29,al30,al31,al32,al33,al34,amY,op_eqP, hl]
  cases l.contains y <;> simp only [a_gnomonref01_Has,s_gnomonref01_Has_l0_b, am0,am1,am2,am3,am4,am5,am6,am7,bl,i64,reduceIte,reduceCtorEq,Nat.reduceEqDiff,Nat.reduceLT,Nat.reduceLeDiff,Nat.reduceBEq,Nat.reduceAdd,fillA,splice,Nat.reduceMul,al0,al1,al2,al3,al4,al5,al6,al7,al8,al9,al10,al11,al12,al13,al14,al15,al16,al17,al18,al19,al20,al21,al22,al23,al24,al25,al26,al27,al28,al29,al30,al31,al32,al33,al34,amY,op_eqP]
theorem same_loop (call : CallF) (base : Nat) (H : Heap) (v w : V) (l l2 : List Int) (hv : Rd H v (l.map iV)) (hw : Wide1 v) (hv2 : Rd H w (l2.map iV)) (hw2 : Wide1 w) (hn : l.length < 2 ^ 62) (hll : l2.length = l.length) : ∀ (r r2 : List Int) (k : Nat), l.drop k = r → l2.drop k = r2 → k ≤ l.length →
    itW (evC call itW base s_gnomonref01_Same_l0) [] H.length (frOf 26 [(0, v), (1, w), (5, .s (.int .i64 k))]) H =
      bif r == r2 then some (.ext 0, frOf 26 [(0, v), (1, w), (5, .s (.int .i64 l.length)), (14, .s (.bool false))], H) else some (.ret, frOf 26 [(4, .s (.bool false))], H) := by
  intro r
  induction r with
  | nil =>
    intro r2 k hd hd2 hk
    obtain rfl := drop_nil hd hk
    have : r2 = [] := by rw [← hd2]; exact List.drop_of_length_le (by omega)
    subst this
    rw [itW_step]
    simp only [a_gnomonref01_Same,s_gnomonref01_Same_l0_b, am0,am1,am2,am3,am4,am5,am6,am7,bl,i64,reduceIte,reduceCtorEq,Nat.reduceEqDiff,Nat.reduceLT,Nat.reduceLeDiff,Nat.reduceBEq,Nat.reduceAdd,fillA,splice,Nat.reduceMul,al0,al1,al2,al3,al4,al5,al6,al7,al8,al9,al10,al11,al12,al13,al14,al15,al16,al17,al18,al19,al20,al21,al22,al23,al24,al25,al26,al27,al28,al29,al30,al31,al32,al33,al34,amY,op_eqP, iV_len hv, Int.lt_irrefl, trim_same rfl, BEq.rfl]
  | cons x r ih =>
    intro r2 k hd hd2 hk
    obtain ⟨hx, hlt, hd'⟩ := drop_cons hd
    match r2, hd2 with
    | [], hd2 => have := drop_nil hd2 (by omega); omega
    | y :: r2, hd2 =>
      obtain ⟨hy, _, hd2'⟩ := drop_cons hd2
      obtain ⟨a, ha1, ha2⟩ := iV_at hv hw hx
      obtain ⟨b, hb1, hb2⟩ := iV_at hv2 hw2 hy
      have hlt' : (k : Int) < (l.length : Int) := by omega
      have hwk := wrap_pos (n := k) (by omega)
      have hc : ((x :: r) == (y :: r2)) = ((x == y) && (r == r2)) := rfl
      rw [itW_step, hc]
      cases hxy : x == y with
      | true =>
        have hne : (x != y) = false := by rw [bne, hxy]; rfl
        simp only [a_gnomonref01_Same,s_gnomonref01_Same_l0_b, am0,am1,am2,am3,am4,am5,am6,am7,bl,i64,reduceIte,reduceCtorEq,Nat.reduceEqDiff,Nat.reduceLT,Nat.reduceLeDiff,Nat.reduceBEq,Nat.reduceAdd,fillA,splice,Nat.reduceMul,al0,al1,al2,al3,al4,al5,al6,al7,al8,al9,al10,al11,al12,al13,al14,al15,al16,al17,al18,al19,al20,al21,al22,al23,al24,al25,al26,al27,al28,al29,al30,al31,al32,al33,al34,amY,op_eqP, iV_len hv, hlt', ha1, ha2, hb1, hb2, hne, hwk, trim_same rfl]
        exact ih r2 (k + 1) hd' hd2' (by omega)
      | false =>
        have hne : (x != y) = true := by rw [bne, hxy]; rfl
        simp only [a_gnomonref01_Same,s_gnomonref01_Same_l0_b, am0,am1,am2,am3,am4,am5,am6,am7,bl,i64,reduceIte,reduceCtorEq,Nat.reduceEqDiff,Nat.reduceLT,Nat.reduceLeDiff,Nat.reduceBEq,Nat.reduceAdd,fillA,splice,Nat.reduceMul,al0,al1,al2,al3,al4,al5,al6,al7,al8,al9,al10,al11,al12,al13,al14,al15,al16,al17,al18,al19,al20,al21,al22,al23,al24,al25,al26,al27,al28,al29,al30,al31,al32,al33,al34,amY,op_eqP, iV_len hv, hlt', ha1, ha2, hb1, hb2, hne, trim_same rfl]
theorem same_fun {CT : Nat → Option CFun} (hT : CT k_gnomonref01_Same = some (.code s_gnomonref01_Same)) (base : Nat) (H : Heap) (v w : V) (l l2 : List Int) (hv : Rd H v (l.map iV)) (hw : Wide1 v) (hv2 : Rd H w (l2.map iV)) (hw2 : Wide1 w) (hn : l.length < 2 ^ 62) :
    callW CT (.fn k_gnomonref01_Same [] []) [v, w] base H = some (.s (.bool (l == l2)), H) := by
  refine callW_fn (c := s_gnomonref01_Same) hT (by simp [s_gnomonref01_Same]) ?_
  by_cases hll : l.length = l2.length
  · have hl := same_loop (callW CT) base H v w l l2 hv hw hv2 hw2 hn hll.symm l l2 0 rfl rfl (Nat.zero_le _)
    rw [cast0] at hl
    have hne : (((l.length : Nat) : Int) != (l2.length : Nat)) = false := by rw [hll, bne, BEq.rfl]; rfl
    simp only [s_gnomonref01_Same, a_gnomonref01_Same,s_gnomonref01_Same_l0_b, am0,am1,am2,am3,am4,am5,am6,am7,bl,i64,reduceIte,reduceCtorEq,Nat.reduceEqDiff,Nat.reduceLT,Nat.reduceLeDiff,Nat.reduceBEq,Nat.reduceAdd,fillA,splice,Nat.reduceMul,al0,al1,al2,al3,al4,al5,al6,al7,al8,al9,al10,al11,al12,al13,al14,al15,al16,al17,al18,al19,al20,al21,al22,al23,al24,al25,al26,al27,al28,al29,al30,al31,al32,al33,al34,amY,op_eqP, iV_len hv, iV_len hv2, hne, hl]
    cases l == l2 <;> simp only [a_gnomonref01_Same,s_gnomonref01_Same_l0_b, am0,am1,am2,am3,am4,am5,am6,am7,bl,i64,reduceIte,reduceCtorEq,Nat.reduceEqDiff,Nat.reduceLT,Nat.reduceLeDiff,Nat.reduceBEq,Nat.reduceAdd,fillA,splice,Nat.reduceMul,al0,al1,al2,al3,al4,al5,al6,al7,al8,al9,al10,al11,al12,al13,al14,al15,al16,al17,al18,al19,al20,al21,al22,al23,al24,al25,al26,al27,al28,al29,al30,al31,al32,al33,al34,amY,op_eqP]
  · have hne : (((l.length : Nat) : Int) != (l2.length : Nat)) = true := by rw [bne_iff_ne]; omega
    have : (l == l2) = false := by rw [beq_eq_false_iff_ne]; intro e; exact hll (by rw [e])
    simp only [s_gnomonref01_Same, a_gnomonref01_Same,s_gnomonref01_Same_l0_b, am0,am1,am2,am3,am4,am5,am6,am7,bl,i64,reduceIte,reduceCtorEq,Nat.reduceEqDiff,Nat.reduceLT,Nat.reduceLeDiff,Nat.reduceBEq,Nat.reduceAdd,fillA,splice,Nat.reduceMul,al0,al1,al2,al3,al4,al5,al6,al7,al8,al9,al10,al11,al12,al13,al14,al15,al16,al17,al18,al19,al20,al21,al22,al23,al24,al25,al26,al27,al28,al29,al30,al31,al32,al33,al34,amY,op_eqP, iV_len hv, iV_len hv2, hne, this]
end Go.Proofs.YtlclbbieacjmfaaDoor
