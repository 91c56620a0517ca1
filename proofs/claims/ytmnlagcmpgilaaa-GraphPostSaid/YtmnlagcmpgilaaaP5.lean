/- Texts of the proof: AmQ, AmR, GraphArg. -/
import Derived.Test.YtmnlagcmpgilaaaP0
import Derived.Test.YtmnlagcmpgilaaaP1
import Derived.Test.YtmnlagcmpgilaaaP2
import Derived.Test.YtmnlagcmpgilaaaP3
import Derived.Test.YtmnlagcmpgilaaaP4
import Derived.Shelf.Sort.Plain
import Derived.DataReads
import Derived.ChangeOld
import Derived.ChangeArms
set_option linter.all false
namespace Go.AM
open Go.RowKit
section
variable {CC : Code → ACode → Prop} {μ : Mu} {Mt : Nat → Prop} {w w' : World} {H : Heap} {P : Program}
theorem post_ghosts : ∀ (os : List Obj) (w w' : World), HR CC μ Mt w H → w'.heap = w.heap ++ os.toArray → w'.os = w.os → w'.tape = w.tape → w'.output = w.output → Post CC μ Mt w H μ Mt w' H := by
  intro os
  induction os with
  | nil => intro w w' h h1 h2 h3 h4; exact post_drew h (by simpa using h1) h2 h3 h4
  | cons o os ih =>
    intro w w' h h1 h2 h3 h4
    have k : Post CC μ Mt w H μ Mt { w with heap := w.heap.push o } H := post_ghost h o rfl rfl rfl rfl
    refine k.trans (ih _ w' k.hr ?_ h2 h3 h4)
    rw [h1]
    apply Array.ext'
    simp
theorem putCells_eq {α : Type} [Inhabited α] (enc : α → Value) (off : Nat) (d : List α) (c : Array Value) (hl : off + d.length ≤ c.size) : (Sort.putCells enc off d.toArray c) = (c.toList.take off ++ d.map enc ++ c.toList.drop (off + d.length)).toArray := by
  apply Array.ext'
  refine List.ext_getElem? fun i => ?_
  unfold Sort.putCells
  rw [Array.getElem?_toList, Array.getElem?_mapIdx]
  by_cases h1 : i < off
  · rw [List.append_assoc, List.getElem?_append_left (by simp; omega), List.getElem?_take_of_lt h1]
    have h2 : ¬ (off ≤ i ∧ i < off + d.toArray.size) := by omega
    simp only [h2, if_false]
    simp
  · by_cases h3 : i < off + d.length
    · rw [List.append_assoc, List.getElem?_append_right (by simp; omega), List.getElem?_append_left (by simp; omega)]
      have h2 : off ≤ i ∧ i < off + d.toArray.size := ⟨by omega, by simpa using h3⟩
      have e1 : i - (c.toList.take off).length = i - off := by simp; omega
      have hi : i - off < d.length := by omega
      simp only [h2, and_self, if_true, e1]
      have hc : i < c.size := by omega
      simp [hc, hi]
    · rw [List.getElem?_append_right (by simp; omega), List.getElem?_drop]
      have h2 : ¬ (off ≤ i ∧ i < off + d.toArray.size) := by simp; omega
      have e1 : off + d.length + (i - (c.toList.take off ++ d.map enc).length) = i := by simp; omega
      simp only [h2, if_false, e1]
      simp
theorem sort_ok {pure' : Nat → Bool} {k : Nat} (hent : ∀ xs w, (callFunc k xs).run P w = .ok (.enter k xs) w)
    (hs : ∀ (blk off cap : Nat) (zs : List Int) (w : World), Sort.Holds (Value.int .i64) w blk off zs.toArray → blk < w.heap.size → zs.length < 4611686018427387904 →
      Calls P k #[.slice (some ⟨blk, off, none⟩) zs.length cap] w fun e w' => e = .returned (.tuple #[]) ∧ ∃ n os, w' = Sort.grow (Sort.putRow (Value.int .i64) (Sort.ahead w n) blk off (sortZ zs).toArray) os)
    (hn : ∀ (p : Option Addr) (cap : Nat) (w : World), Calls P k #[.slice p 0 cap] w fun e w' => e = .returned (.tuple #[]) ∧ w' = w) : FunOk P pure' k (.prim sortG) := by
  refine ⟨hent, fun vs base H r H' hg => ?_⟩
  have empty : ∀ (v : V) (hv : ∀ (μ : Mu) (Mt : Nat → Prop) (w : World) (c : Value), VR μ Mt w v c → ∃ p cap, c = .slice p 0 cap), ∀ (μ : Mu) (Mt : Nat → Prop) (w : World) (cs : List Value), HR (CodeR P pure') μ Mt w H → VRs μ Mt w [v] cs → ∀ n, CallsIn Fence.wide n P k cs.toArray w (RetP (CodeR P pure') μ Mt w H und H) := by
    intro v hv μ Mt w cs hH hvs n
    obtain ⟨h1, h2⟩ := hvs
    match cs, h1 with
    | [c], _ =>
      obtain ⟨p, cap, rfl⟩ := hv μ Mt w c (h2 0 v c rfl rfl)
      refine callsIn_wide.2 ((hn p cap w).mono ?_)
      rintro e w' ⟨rfl, rfl⟩
      exact ⟨_, μ, Mt, rfl, .s _, Post.refl hH⟩
  unfold sortG at hg
  split at hg
  · cases hg
    exact ⟨Floor.refl _ _, empty _ fun μ Mt w c h => ⟨none, 0, vr_s h⟩⟩
  · cases hg
    refine ⟨Floor.refl _ _, empty _ fun μ Mt w c h => ?_⟩
    cases h with
    | esl a => exact ⟨some a, 0, rfl⟩
  · rename_i id g off n z
    split at hg
    · rename_i h0
      cases hg
      subst h0
      refine ⟨Floor.refl _ _, empty _ fun μ Mt w c h => ?_⟩
      cases h with
      | sl => exact ⟨_, _, rfl⟩
      | sl0 => exact ⟨_, _, rfl⟩
    · rename_i h0
      split at hg
      · rename_i hb
        obtain ⟨hbase, rfl, hn62⟩ := hb
        split at hg
        · rename_i c hc
          split at hg
          · rename_i zs hzs
            split at hg
            · rename_i hl
              cases hg
              refine ⟨⟨by simp, fun j hj _ => by rw [List.getElem?_set_ne (by omega)]⟩, ?_⟩
              intro μ Mt w cs hH hvs m
              obtain ⟨h1, h2⟩ := hvs
              have hmap := intsOf_eq hzs
              have hzl : zs.length = n := by
                have := congrArg List.length hmap
                simp at this
                omega
              match cs, h1 with
              | [c1], _ =>
                have hv := h2 0 _ c1 rfl rfl
                cases hv with
                | sl0 => exact absurd rfl h0
                | sl _ _ _ _ _ B b cap arr el hm hB hcap hsz =>
                  obtain ⟨arr', el', hB', hsz', hrd⟩ := hH.row hc hm
                  rw [hB] at hB'
                  cases hB'
                  have hcell : ∀ j, j < n → arr[b + off + j]? = some (.int .i64 zs[j]!) := by
                    intro j hj
                    have hcj : c[off + j]? = some (iV zs[j]!) := by
                      have : ((c.drop off).take n)[j]? = (zs.map iV)[j]? := by rw [hmap]
                      rw [List.getElem?_take_of_lt hj, List.getElem?_drop] at this
                      rw [this]
                      have hj' : j < zs.length := by omega
                      simp [hj']
                    have hlt : b + (off + j) < arr.size := by
                      have := (List.getElem?_eq_some_iff.1 hcj).1
                      omega
                    have ha : arr[b + (off + j)]? = some arr[b + (off + j)] := Array.getElem?_eq_getElem hlt
                    have hvr := hrd (off + j) _ _ hcj ha
                    have := vr_s hvr
                    rw [Nat.add_assoc, ha, this]
                  have hH0 : Sort.Holds (Value.int .i64) w B (b + off) zs.toArray := by
                    intro j hj
                    have hj' : j < n := by simpa [hzl] using hj
                    refine ⟨?_, ?_⟩
                    · simp only [World.cell?, hB]
                      have := hcell j hj'
                      simpa using this
                    · simp [World.frozen?, hB]
                  have hsl : (sortZ zs).length = n := by rw [sortZ, List.length_mergeSort, hzl]
                  have hcl := hs B (b + off) cap zs w hH0 (lt_of_some hB) (by omega)
                  rw [hzl] at hcl
                  refine callsIn_wide.2 (hcl.mono ?_)
                  rintro e w' ⟨rfl, nn, os, rfl⟩
                  have hone : ((sortZ zs).map iV).all V.one = true := by
                    rw [List.all_eq_true]
                    intro x hx
                    obtain ⟨z, _, rfl⟩ := List.mem_map.1 hx
                    rfl
                  have hvr : VRs μ Mt w ((sortZ zs).map iV) ((sortZ zs).map (Value.int .i64)) := by
                    refine ⟨by simp, fun i a b ha hb => ?_⟩
                    rw [List.getElem?_map] at ha hb
                    cases hz : (sortZ zs)[i]? with
                    | none => rw [hz] at ha; cases ha
                    | some z => rw [hz] at ha hb; cases ha; cases hb; exact .s _
                  obtain ⟨w1, hrun, hpost⟩ := post_store (P := P) hH hc hm (off := off) (vs := (sortZ zs).map iV) (us := (sortZ zs).map (Value.int .i64)) (by simp [hsl]; omega) hvr hone
                  have hrun2 := run_storeCells_at P B (b + off) el ((sortZ zs).map (Value.int .i64)) 0 arr w hB (by simp [hsl]; omega) (vrs_one hvr hone)
                  rw [hrun] at hrun2
                  have hw1 : w1 = w.setRow B (arr.toList.take (b + off) ++ (sortZ zs).map (Value.int .i64) ++ arr.toList.drop (b + off + ((sortZ zs).map (Value.int .i64)).length)).toArray := by
                    simpa using hrun2
                  have hheap : (Sort.putRow (Value.int .i64) w B (b + off) (sortZ zs).toArray).heap = w1.heap := by
                    rw [hw1]
                    apply Array.ext_getElem?
                    intro i
                    simp only [Sort.putRow, Sort.mapBlock, World.setRow, Array.getElem?_modify]
                    by_cases hi : B = i
                    · subst hi
                      simp only [if_true, hB, Option.map_some, Sort.onCells]
                      rw [putCells_eq _ _ _ _ (by rw [hsl]; omega), List.length_map]
                    · simp [hi]
                  have hg := post_ghosts os.toList _ (Sort.grow (Sort.putRow (Value.int .i64) (Sort.ahead w nn) B (b + off) (sortZ zs).toArray) os) hpost.hr (by
                    show (Sort.putRow (Value.int .i64) w B (b + off) (sortZ zs).toArray).heap ++ os = _
                    rw [hheap]) (by rw [hw1]; rfl) (by rw [hw1]; rfl) (by rw [hw1]; rfl)
                  exact ⟨_, _, _, rfl, .s _, hpost.trans hg⟩
            · cases hg
          · cases hg
        · cases hg
      · cases hg
  · cases hg
end
end Go.AM
namespace Go.AM
open Go.RowKit
inductive Ty where
  | int (k : IntKind) | bool | str
  | sl (e : Ty)
  | st (fs : List Ty)
  deriving Inhabited
mutual
def Ty.width : Ty → Nat
  | .int _ => 1
  | .bool => 1
  | .str => 1
  | .sl _ => 1
  | .st fs => widths fs
def widths : List Ty → Nat
  | [] => 0
  | f :: fs => f.width + widths fs
end
mutual
def tyOk (P : Program) : Nat → Ty → TypeId → Bool
  | 0, _, _ => false
  | n + 1, ty, t => match ty, P.underlying t with
    | .int k, some (.int k') => k == k'
    | .bool, some .bool => true
    | .str, some .string => true
    | .sl e, some (.slice e') => tyOk P n e e' && P.cellsOf e' == e.width && decide (0 < e.width)
    | .st fs, some (.struct gs) => P.cellsOf t == widths fs && tysOk P n 0 fs gs.toList
    | _, _ => false
def tysOk (P : Program) : Nat → Nat → List Ty → List Field → Bool
  | 0, _, _, _ => false
  | n + 1, off, fs, gs => match fs, gs with
    | [], [] => true
    | f :: fs, g :: gs => g.offset == off && P.cellsOf g.type == f.width && tyOk P n f g.type && tysOk P n (off + f.width) fs gs
    | _, _ => false
end
mutual
def IsV : Ty → List V → Prop
  | .int k, cs => ∃ n, cs = [.s (.int k n)] ∧ k.min ≤ n ∧ n ≤ k.max
  | .bool, cs => ∃ b, cs = [.s (.bool b)]
  | .str, cs => ∃ b, cs = [.s (.string b)] ∧ b.size ≤ maxLen
  | .sl e, cs => cs = [nilS] ∨ ∃ es : List (List V), cs = [.psl es e.width] ∧ es.length ≤ maxLen ∧ ∀ x ∈ es, IsV e x
  | .st fs, cs => IsVs fs cs
def IsVs : List Ty → List V → Prop
  | [], cs => cs = []
  | f :: fs, cs => ∃ a b, cs = a ++ b ∧ IsV f a ∧ IsVs fs b
end
mutual
theorem IsV.len : ∀ (t : Ty) {cs : List V}, IsV t cs → cs.length = t.width
  | .int _, cs, h => by obtain ⟨n, rfl, _⟩ := h; rfl
  | .bool, cs, h => by obtain ⟨n, rfl⟩ := h; rfl
  | .str, cs, h => by obtain ⟨n, rfl, _⟩ := h; rfl
  | .sl e, cs, h => by rcases h with rfl | ⟨es, rfl, _⟩ <;> rfl
  | .st fs, cs, h => IsVs.len fs h
theorem IsVs.len : ∀ (fs : List Ty) {cs : List V}, IsVs fs cs → cs.length = widths fs
  | [], cs, h => by cases h; rfl
  | f :: fs, cs, h => by
    obtain ⟨a, b, rfl, h1, h2⟩ := h
    rw [List.length_append, IsV.len f h1, IsVs.len fs h2]; rfl
end
abbrev PRs (w : World) (vs : List V) (cs : List Value) : Prop := vs.length = cs.length ∧ ∀ (i : Nat) (a : V) (b : Value), vs[i]? = some a → cs[i]? = some b → PR (fun _ => False) w a b
theorem PRs.app {w : World} {a b : List V} {c d : List Value} (h : PRs w a c) (k : PRs w b d) : PRs w (a ++ b) (c ++ d) := by
  refine ⟨by simp [h.1, k.1], fun i x y hx hy => ?_⟩
  by_cases hi : i < a.length
  · rw [List.getElem?_append_left hi] at hx
    rw [List.getElem?_append_left (by rw [← h.1]; exact hi)] at hy
    exact h.2 i x y hx hy
  · rw [List.getElem?_append_right (by omega)] at hx
    rw [List.getElem?_append_right (by rw [← h.1]; omega), ← h.1] at hy
    exact k.2 _ x y hx hy
theorem PRs.one {w : World} {a : V} {b : Value} (h : PR (fun _ => False) w a b) : PRs w [a] [b] := ⟨rfl, fun i x y hx hy => by
  cases i with
  | zero => simp at hx hy; rw [← hx, ← hy]; exact h
  | succ i => simp at hx⟩
theorem PRs.vrs {w : World} {vs : List V} {cs : List Value} (h : PRs w vs cs) : VRs (fun _ _ => none) (fun _ => False) w vs cs := ⟨h.1, fun i a b ha hb => (h.2 i a b ha hb).vr⟩
theorem mapM_fwd {α β : Type} {f : α → Option β} {l : List α} {us : List β} (h : l.mapM f = some us) : us.length = l.length ∧ ∀ (i : Nat) (v : α), l[i]? = some v → ∃ u, us[i]? = some u ∧ f v = some u := by
  obtain ⟨h1, h2⟩ := mapM_get2 h
  refine ⟨h1, fun i v hv => ?_⟩
  have hi : i < us.length := by rw [h1]; exact (List.getElem?_eq_some_iff.1 hv).1
  exact ⟨us[i], List.getElem?_eq_getElem hi, h2 i v _ hv (List.getElem?_eq_getElem hi)⟩
section
variable {H : Type} {enc : TypeId × Value → H} {P : Program} {w : World} {base : Nat} {sp : Nat → Bool} {held : Bool}
theorem add_block (a : Addr) (j : Nat) : (a.add j).block = a.block := by unfold Addr.add; split <;> rfl
theorem add_off {a : Addr} (h : a.spot = none) (j : Nat) : (a.add j).off = a.off + j := by
  unfold Addr.add
  split
  · rename_i e; subst e; rfl
  · rfl
theorem cells_row {a : Addr} {n : Nat} {cs : List Value} (h : w.cells? base a n = some cs) (hn : 0 < n) : ∃ arr e fr, w.heap[a.block]? = some (.cells arr e fr) ∧ a.spot = none ∧ cs.length = n ∧ a.off + n ≤ arr.size ∧ ∀ j, j < n → cs[j]? = arr[a.off + j]? := by
  unfold World.cells? at h
  split at h
  · obtain ⟨h1, h2⟩ := mapM_fwd h
    simp only [List.length_range] at h1
    have key : ∀ j, j < n → ∃ u, cs[j]? = some u ∧ w.cell? (a.add j) = some u := fun j hj => h2 j j (by simp [hj])
    obtain ⟨u0, _, hc0⟩ := key 0 hn
    unfold World.cell? at hc0
    split at hc0
    · rename_i c e fr hh
      have hbl : ∀ j, (a.add j).block = a.block := fun j => add_block a j
      rw [hbl] at hh
      split at hc0
      · cases hc0
      · rename_i hsp
        have hsp : a.spot = none := by
          cases hs : a.spot with
          | none => rfl
          | some x => exact absurd (by show (a.add 0).spot.isSome = true; simp [Addr.add, hs]) hsp
        have all : ∀ j, j < n → cs[j]? = c[a.off + j]? := by
          intro j hj
          obtain ⟨u, hu, hc⟩ := key j hj
          unfold World.cell? at hc
          rw [hbl, hh] at hc
          simp only [] at hc
          split at hc
          · cases hc
          · rw [hu]
            have : (a.add j).off = a.off + j := add_off hsp j
            rw [← this]; exact hc.symm
        refine ⟨c, e, fr, hh, hsp, h1, ?_, all⟩
        have hl := all (n - 1) (by omega)
        have : cs[n - 1]? = some cs[n - 1] := List.getElem?_eq_getElem (by omega)
        rw [this] at hl
        have := (Array.getElem?_eq_some_iff.1 hl.symm).1
        omega
    · cases hc0
  · cases h
theorem tyOk_int {n : Nat} {k : IntKind} {t : TypeId} (h : tyOk P n (.int k) t = true) : P.underlying t = some (.int k) := by
  cases n with
  | zero => simp [tyOk] at h
  | succ n =>
    simp only [tyOk] at h
    split at h <;> simp_all
theorem tyOk_bool {n : Nat} {t : TypeId} (h : tyOk P n .bool t = true) : P.underlying t = some .bool := by
  cases n with
  | zero => simp [tyOk] at h
  | succ n =>
    simp only [tyOk] at h
    split at h <;> simp_all
theorem tyOk_str {n : Nat} {t : TypeId} (h : tyOk P n .str t = true) : P.underlying t = some .string := by
  cases n with
  | zero => simp [tyOk] at h
  | succ n =>
    simp only [tyOk] at h
    split at h <;> simp_all
theorem tyOk_sl {n : Nat} {e : Ty} {t : TypeId} (h : tyOk P n (.sl e) t = true) : ∃ m e', P.underlying t = some (.slice e') ∧ tyOk P m e e' = true ∧ P.cellsOf e' = e.width ∧ 0 < e.width := by
  cases n with
  | zero => simp [tyOk] at h
  | succ n =>
    simp only [tyOk] at h
    split at h <;> simp_all
    exact ⟨n, h.1.1⟩
theorem tyOk_st {n : Nat} {fs : List Ty} {t : TypeId} (h : tyOk P n (.st fs) t = true) : ∃ m gs, P.underlying t = some (.struct gs) ∧ P.cellsOf t = widths fs ∧ tysOk P m 0 fs gs.toList = true := by
  cases n with
  | zero => simp [tyOk] at h
  | succ n =>
    simp only [tyOk] at h
    split at h <;> simp_all
    exact ⟨n, h.2⟩
theorem read_ty : ∀ (fuel n : Nat) (ty : Ty) (t : TypeId) (cs : List Value) (x : DataW H × List MemPlace), tyOk P n ty t = true → DataW.trod enc P w base sp held fuel t cs = some x → ∃ vs, IsV ty vs ∧ PRs w vs cs := by
  intro fuel
  induction fuel with
  | zero => intro n ty t cs x _ h; simp [DataW.trod] at h
  | succ fuel ih =>
    intro n ty t cs x ht h
    cases ty with
    | int k =>
      obtain ⟨m, rfl, _, hw⟩ := DataW.trod_int (tyOk_int ht) h
      simp only [Lit.wf, Bool.and_eq_true, decide_eq_true_eq] at hw
      exact ⟨[.s (.int k m)], ⟨m, rfl, hw.1, hw.2⟩, PRs.one (.s _)⟩
    | bool =>
      obtain ⟨b, rfl, _⟩ := DataW.trod_bool (tyOk_bool ht) h
      exact ⟨[.s (.bool b)], ⟨b, rfl⟩, PRs.one (.s _)⟩
    | str =>
      obtain ⟨b, rfl, _, hb⟩ := DataW.trod_string (tyOk_str ht) h
      exact ⟨[.s (.string b)], ⟨b, rfl, hb⟩, PRs.one (.s _)⟩
    | sl e =>
      obtain ⟨m, e', hu, he, hw, h0⟩ := tyOk_sl ht
      rcases DataW.trod_slice hu h with ⟨rfl, _⟩ | ⟨a, len, cap, elems, rest, n2, hn, rfl, _, hb, hlc, hcm, hel, hall, _⟩
      · exact ⟨[nilS], .inl rfl, PRs.one (.s _)⟩
      · have hn2 : n2 = fuel := by omega
        subst hn2
        rw [hw] at hall
        by_cases hl : len = 0
        · subst hl
          exact ⟨[.psl [] e.width], .inr ⟨[], rfl, Nat.zero_le _, fun x hx => by cases hx⟩, PRs.one (.psl0 _ _ _)⟩
        ·
          have one : ∀ i, i < len → ∃ cs vs, w.cells? base (a.add (i * e.width)) e.width = some cs ∧ IsV e vs ∧ PRs w vs cs := by
            intro i hi
            have hh := hall i hi
            have : elems[i]? = some elems[i] := List.getElem?_eq_getElem (by omega)
            rw [this, Option.bind_eq_some_iff] at hh
            obtain ⟨cs, h1, h2⟩ := hh
            obtain ⟨vs, h3, h4⟩ := ih m e e' cs _ he h2
            exact ⟨cs, vs, h1, h3, h4⟩
          obtain ⟨c0, _, hc0, _, _⟩ := one 0 (by omega)
          rw [Nat.zero_mul] at hc0
          have ha0 : a.add 0 = a := by simp [Addr.add]
          rw [ha0] at hc0
          obtain ⟨arr, el, fr, hB, hsp, _, _, _⟩ := cells_row hc0 h0
          have pos : ∀ i, i < len → ∃ vs, IsV e vs ∧ a.off + i * e.width + e.width ≤ arr.size ∧ ∀ (j : Nat) (x : V) (y : Value), vs[j]? = some x → arr[a.off + i * e.width + j]? = some y → PR (fun _ => False) w x y := by
            intro i hi
            obtain ⟨cs, vs, h1, h2, h3⟩ := one i hi
            obtain ⟨arr', el', fr', hB', _, hcl, hsz, hcj⟩ := cells_row h1 h0
            rw [add_block, hB] at hB'
            cases hB'
            rw [add_off hsp] at hsz hcj
            refine ⟨vs, h2, hsz, fun j x y hx hy => ?_⟩
            have hj : j < e.width := by rw [← h2.len]; exact (List.getElem?_eq_some_iff.1 hx).1
            exact h3.2 j x y hx (by rw [hcj j hj]; exact hy)
          obtain ⟨es, he1, he2⟩ : ∃ es : List (List V), es.length = len ∧ ∀ i vs, es[i]? = some vs → IsV e vs ∧ a.off + i * e.width + e.width ≤ arr.size ∧ ∀ (j : Nat) (x : V) (y : Value), vs[j]? = some x → arr[a.off + i * e.width + j]? = some y → PR (fun _ => False) w x y := by
            have : ∀ k, k ≤ len → ∃ es : List (List V), es.length = k ∧ ∀ i vs, es[i]? = some vs → IsV e vs ∧ a.off + i * e.width + e.width ≤ arr.size ∧ ∀ (j : Nat) (x : V) (y : Value), vs[j]? = some x → arr[a.off + i * e.width + j]? = some y → PR (fun _ => False) w x y := by
              intro k
              induction k with
              | zero => intro _; exact ⟨[], rfl, fun i vs h => by simp at h⟩
              | succ k ihk =>
                intro hk
                obtain ⟨es, h1, h2⟩ := ihk (by omega)
                obtain ⟨vs, h3⟩ := pos k (by omega)
                refine ⟨es ++ [vs], by simp [h1], fun i us hi => ?_⟩
                by_cases c : i < es.length
                · rw [List.getElem?_append_left c] at hi; exact h2 i us hi
                · rw [List.getElem?_append_right (by omega)] at hi
                  have : i - es.length = 0 := by
                    have := (List.getElem?_eq_some_iff.1 hi).1
                    simp at this; omega
                  rw [this] at hi
                  simp at hi
                  have hik : i = k := by omega
                  subst hik; subst hi
                  exact h3
            exact this len (Nat.le_refl _)
          refine ⟨[.psl es e.width], .inr ⟨es, rfl, by omega, fun x hx => ?_⟩, PRs.one ?_⟩
          · obtain ⟨i, hi⟩ := List.mem_iff_getElem?.1 hx
            exact (he2 i x hi).1
          · have hslice : Value.slice (some a) len cap = .slice (some ⟨a.block, a.off, none⟩) es.length cap := by
              rw [he1]
              congr 2
              cases a; simp at hsp; subst hsp; rfl
            rw [hslice]
            refine .psl es e.width a.block a.off cap arr el fr hB (fun h => h) (by omega) (fun i vs hi => (he2 i vs hi).1.len) ?_ (fun i vs j x y hi hx hy => (he2 i vs hi).2.2 j x y hx hy)
            have hlast := (he2 (len - 1) es[len - 1] (List.getElem?_eq_getElem (by omega))).2.1
            rw [he1]
            have : len * e.width = (len - 1) * e.width + e.width := by
              obtain ⟨k, rfl⟩ : ∃ k, len = k + 1 := ⟨len - 1, by omega⟩
              rw [Nat.add_sub_cancel, Nat.add_mul, Nat.one_mul]
            omega
    | st fs =>
      obtain ⟨m, gs, hu, hw, hts⟩ := tyOk_st ht
      obtain ⟨xs, n2, hn, _, hcl, hxl, hall⟩ := DataW.trod_struct hu h
      have hn2 : n2 = fuel := by omega
      subst hn2
      have key : ∀ (fs : List Ty) (m off : Nat) (gl : List Field), tysOk P m off fs gl = true → (∀ g ∈ gl, ∃ y, DataW.trod enc P w base sp held n2 g.type ((cs.drop g.offset).take (P.cellsOf g.type)) = some y) → off + widths fs = cs.length → ∃ vs, IsVs fs vs ∧ PRs w vs (cs.drop off) := by
        intro fs
        induction fs with
        | nil =>
          intro m off gl _ _ ho
          refine ⟨[], rfl, ?_⟩
          rw [List.drop_eq_nil_of_le (by simp [widths] at ho; omega)]
          exact ⟨rfl, fun i a b h => by simp at h⟩
        | cons f fs ihf =>
          intro m off gl htk hg ho
          cases m with
          | zero => simp [tysOk] at htk
          | succ m =>
            cases gl with
            | nil => simp [tysOk] at htk
            | cons g gl =>
              simp only [tysOk, Bool.and_eq_true, beq_iff_eq] at htk
              obtain ⟨⟨⟨h1, h2⟩, h3⟩, h4⟩ := htk
              obtain ⟨y, hy⟩ := hg g List.mem_cons_self
              obtain ⟨va, ha1, ha2⟩ := ih m f g.type _ y h3 hy
              obtain ⟨vb, hb1, hb2⟩ := ihf m (off + f.width) gl h4 (fun g hg' => hg g (List.mem_cons_of_mem _ hg')) (by simp only [widths] at ho; omega)
              refine ⟨va ++ vb, ⟨va, vb, rfl, ha1, hb1⟩, ?_⟩
              rw [h1, h2] at ha2
              have : cs.drop off = (cs.drop off).take f.width ++ cs.drop (off + f.width) := by
                rw [← List.drop_drop, List.take_append_drop]
              rw [this]
              exact ha2.app hb2
      obtain ⟨vs, h1, h2⟩ := key fs m 0 gs.toList hts (fun g hg => by
        obtain ⟨i, hi⟩ := List.mem_iff_getElem?.1 hg
        have hi' : gs[i]? = some g := by simpa using hi
        have h3 := hall i g hi'
        have hlt := (Array.getElem?_eq_some_iff.1 hi').1
        exact ⟨xs[i]'(by omega), by rw [h3]; exact List.getElem?_eq_getElem (by omega)⟩) (by omega)
      exact ⟨vs, h1, by simpa using h2⟩
def argV : Ty → List V → V
  | .st _, vs => .agg vs
  | _, [v] => v
  | _, _ => .unk
theorem read_arg {n : Nat} {ty : Ty} {t : TypeId} {v : Value} {d : DataW H} {ps : List MemPlace} (ht : tyOk P n ty t = true) (hf : (match ty with | .st _ => ∃ vs, v = .agg vs | _ => v.cells.toList = [v])) (h : DataW.Trod enc P w base sp held t v d ps) :
    ∃ vs, IsV ty vs ∧ VR (fun _ _ => none) (fun _ => False) w (argV ty vs) v := by
  obtain ⟨fuel, h⟩ := h
  obtain ⟨vs, h1, h2⟩ := read_ty fuel n ty t _ _ ht h
  refine ⟨vs, h1, ?_⟩
  have one : vs.length = 1 → v.cells.toList = [v] → ∃ x, vs = [x] ∧ VR (fun _ _ => none) (fun _ => False) w x v := by
    intro hl hc
    match vs, hl with
    | [x], _ =>
      rw [hc] at h2
      exact ⟨x, rfl, (h2.2 0 x v rfl rfl).vr⟩
  cases ty with
  | st fs =>
    obtain ⟨us, rfl⟩ := hf
    exact vr_agg_mk (vs := us.toList) h2.vrs
  | _ =>
    obtain ⟨x, rfl, hx⟩ := one h1.len hf
    exact hx
end
end Go.AM
set_option maxRecDepth 100000
namespace Go.Proofs.Ytmnlagcmpgilaaa
open Go.AM
def tGraph : Ty := .sl (.sl (.int .i64))
theorem ints_of : ∀ es : List (List V), (∀ x ∈ es, IsV (.int .i64) x) → ∃ l : List Int, es = (l.map iV).map fun x => [x] := by
  intro es
  induction es with
  | nil => intro _; exact ⟨[], rfl⟩
  | cons e es ih =>
    intro h
    obtain ⟨n, rfl, _⟩ := h e List.mem_cons_self
    obtain ⟨l, rfl⟩ := ih fun x hx => h x (List.mem_cons_of_mem _ hx)
    exact ⟨n :: l, rfl⟩
theorem one_wide (l : List V) : Wide1 (.psl (l.map fun x => [x]) 1) := by
  intro e he
  rw [List.mem_map] at he
  obtain ⟨x, _, rfl⟩ := he
  rfl
theorem row_of {v : List V} (h : IsV (.sl (.int .i64)) v) : ∃ u, v = [u] ∧ ∃ l : List Int, (∀ H, Rd H u (l.map iV)) ∧ Wide1 u ∧ l.length < 2 ^ 63 := by
  rcases h with rfl | ⟨es, rfl, hl, he⟩
  · exact ⟨nilS, rfl, [], fun H => Rd.nil H, trivial, by decide⟩
  · obtain ⟨l, rfl⟩ := ints_of es he
    refine ⟨_, rfl, l, fun H => Rd.psl H _, one_wide _, ?_⟩
    simp only [List.length_map, maxLen] at hl
    omega
theorem graph_of {v : List V} (h : IsV tGraph v) : ∃ u, v = [u] ∧ ∃ G : List (List Int), ∀ H, RdRows H u (rowsV G) := by
  rcases h with rfl | ⟨es, rfl, hl, he⟩
  · exact ⟨nilS, rfl, [], fun H => ⟨[], Rd.nil H, trivial, rfl, fun i r hr => by simp [rowsV] at hr⟩⟩
  · have : ∀ es : List (List V), (∀ x ∈ es, IsV (.sl (.int .i64)) x) → ∃ (us : List V) (G : List (List Int)), es = (us.map fun x => [x]) ∧ us.length = G.length ∧ ∀ (i : Nat) (r : List Int), G[i]? = some r → ∃ x, us[i]? = some x ∧ (∀ H, Rd H x (r.map iV)) ∧ Wide1 x := by
      intro es
      induction es with
      | nil => intro _; exact ⟨[], [], rfl, rfl, fun i r hr => by simp at hr⟩
      | cons e es ih =>
        intro h
        obtain ⟨u, rfl, l, q1, q2, _⟩ := row_of (h e List.mem_cons_self)
        obtain ⟨us, G, rfl, h1, h2⟩ := ih fun x hx => h x (List.mem_cons_of_mem _ hx)
        refine ⟨u :: us, l :: G, rfl, by simp [h1], fun i r hr => ?_⟩
        cases i with
        | zero => cases hr; exact ⟨u, rfl, q1, q2⟩
        | succ i => exact h2 i r hr
    obtain ⟨us, G, rfl, h1, h2⟩ := this es he
    refine ⟨_, rfl, G, fun H => ⟨us, Rd.psl H us, one_wide us, by rw [rowsV_len]; exact h1, fun i r hr => ?_⟩⟩
    rw [rowsV, List.getElem?_map, Option.map_eq_some_iff] at hr
    obtain ⟨g, hg, rfl⟩ := hr
    obtain ⟨x, q1, q2, q3⟩ := h2 i g hg
    exact ⟨x, q1, q2 H, q3⟩
end Go.Proofs.Ytmnlagcmpgilaaa
