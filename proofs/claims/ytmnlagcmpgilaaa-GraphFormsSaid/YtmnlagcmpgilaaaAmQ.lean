/-
  The library's sort as a function of the machine's: by its contract.
-/
import Derived.Test.YtmnlagcmpgilaaaAmL
import Derived.Shelf.Sort.Plain
set_option linter.all false
namespace Go.AM
open Go.RowKit

def intsOf : List V → Option (List Int)
  | [] => some []
  | .s (.int .i64 n) :: l => (intsOf l).map (n :: ·)
  | _ :: _ => none
def iV (n : Int) : V := .s (.int .i64 n)
theorem intsOf_eq : ∀ {l : List V} {zs : List Int}, intsOf l = some zs → l = zs.map iV := by
  intro l
  induction l with
  | nil => intro zs h; cases h; rfl
  | cons x l ih =>
    intro zs h
    unfold intsOf at h
    split at h
    · rename_i e; cases e
    · rename_i n l' e
      cases e
      rw [Option.map_eq_some_iff] at h
      obtain ⟨ys, h1, rfl⟩ := h
      rw [ih h1]; rfl
    · cases h
theorem intsOf_map : ∀ zs : List Int, intsOf (zs.map iV) = some zs := by
  intro zs
  induction zs with
  | nil => rfl
  | cons z zs ih => simp [iV, intsOf]; exact ih
def sortZ (zs : List Int) : List Int := zs.mergeSort fun x y => decide (x ≤ y)

def sortG : List V → Nat → Heap → Option (V × Heap)
  | [.s (.slice none 0 0)], _, H => some (und, H)
  | [.esl], _, H => some (und, H)
  | [.sl id g off n z], base, H =>
    if n = 0 then some (und, H) else if base ≤ id ∧ z = 1 ∧ n < 4611686018427387904 then
      match getC H id g with
      | some c => match intsOf ((c.drop off).take n) with
        | some zs => if off + n ≤ c.length then some (und, H.set id (.cells g (splice c off ((sortZ zs).map iV)))) else none
        | none => none
      | none => none
    else none
  | _, _, _ => none

section
variable {CC : Code → ACode → Prop} {μ : Mu} {Mt : Nat → Prop} {w w' : World} {H : Heap} {P : Program}

theorem post_ghosts : ∀ (os : List Obj) (w w' : World), HR CC μ Mt w H → w'.heap = w.heap ++ os.toArray → w'.os = w.os → w'.tape = w.tape → w'.output = w.output → Post CC μ Mt w H μ Mt w' H := by
  intro os
  induction os with
  | nil => intro w w' h h1 h2 h3 h4; exact post_drew h (by simpa using h1) h2 h3 h4
  | cons o os ih =>
    intro w w' h h1 h2 h3 h4
    have k : Post CC μ Mt w H μ Mt { w with heap := w.heap.push o } H := post_ghost h o rfl rfl rfl rfl
    refine k.trans (ih _ w' k.hr ?_ h2 h3 h4)
    rw [h1]
    apply Array.ext'
    simp

theorem putCells_eq {α : Type} [Inhabited α] (enc : α → Value) (off : Nat) (d : List α) (c : Array Value) (hl : off + d.length ≤ c.size) : (Sort.putCells enc off d.toArray c) = (c.toList.take off ++ d.map enc ++ c.toList.drop (off + d.length)).toArray := by
  apply Array.ext'
  refine List.ext_getElem? fun i => ?_
  unfold Sort.putCells
  rw [Array.getElem?_toList, Array.getElem?_mapIdx]
  by_cases h1 : i < off
  · rw [List.append_assoc, List.getElem?_append_left (by simp; omega), List.getElem?_take_of_lt h1]
    have h2 : ¬ (off ≤ i ∧ i < off + d.toArray.size) := by omega
    simp only [h2, if_false]
    simp
  · by_cases h3 : i < off + d.length
    · rw [List.append_assoc, List.getElem?_append_right (by simp; omega), List.getElem?_append_left (by simp; omega)]
      have h2 : off ≤ i ∧ i < off + d.toArray.size := ⟨by omega, by simpa using h3⟩
      have e1 : i - (c.toList.take off).length = i - off := by simp; omega
      have hi : i - off < d.length := by omega
      simp only [h2, and_self, if_true, e1]
      have hc : i < c.size := by omega
      simp [hc, hi]
    · rw [List.getElem?_append_right (by simp; omega), List.getElem?_drop]
      have h2 : ¬ (off ≤ i ∧ i < off + d.toArray.size) := by simp; omega
      have e1 : off + d.length + (i - (c.toList.take off ++ d.map enc).length) = i := by simp; omega
      simp only [h2, if_false, e1]
      simp

theorem sort_ok {pure' : Nat → Bool} {k : Nat} (hent : ∀ xs w, (callFunc k xs).run P w = .ok (.enter k xs) w)
    (hs : ∀ (blk off cap : Nat) (zs : List Int) (w : World), Sort.Holds (Value.int .i64) w blk off zs.toArray → blk < w.heap.size → zs.length < 4611686018427387904 →
      Calls P k #[.slice (some ⟨blk, off, none⟩) zs.length cap] w fun e w' => e = .returned (.tuple #[]) ∧ ∃ n os, w' = Sort.grow (Sort.putRow (Value.int .i64) (Sort.ahead w n) blk off (sortZ zs).toArray) os)
    (hn : ∀ (p : Option Addr) (cap : Nat) (w : World), Calls P k #[.slice p 0 cap] w fun e w' => e = .returned (.tuple #[]) ∧ w' = w) : FunOk P pure' k (.prim sortG) := by
  refine ⟨hent, fun vs base H r H' hg => ?_⟩
  have empty : ∀ (v : V) (hv : ∀ (μ : Mu) (Mt : Nat → Prop) (w : World) (c : Value), VR μ Mt w v c → ∃ p cap, c = .slice p 0 cap), ∀ (μ : Mu) (Mt : Nat → Prop) (w : World) (cs : List Value), HR (CodeR P pure') μ Mt w H → VRs μ Mt w [v] cs → ∀ n, CallsIn Fence.wide n P k cs.toArray w (RetP (CodeR P pure') μ Mt w H und H) := by
    intro v hv μ Mt w cs hH hvs n
    obtain ⟨h1, h2⟩ := hvs
    match cs, h1 with
    | [c], _ =>
      obtain ⟨p, cap, rfl⟩ := hv μ Mt w c (h2 0 v c rfl rfl)
      refine callsIn_wide.2 ((hn p cap w).mono ?_)
      rintro e w' ⟨rfl, rfl⟩
      exact ⟨_, μ, Mt, rfl, .s _, Post.refl hH⟩
  unfold sortG at hg
  split at hg
  · cases hg
    exact ⟨Floor.refl _ _, empty _ fun μ Mt w c h => ⟨none, 0, vr_s h⟩⟩
  · cases hg
    refine ⟨Floor.refl _ _, empty _ fun μ Mt w c h => ?_⟩
    cases h with
    | esl a => exact ⟨some a, 0, rfl⟩
  · rename_i id g off n z
    split at hg
    · rename_i h0
      cases hg
      subst h0
      refine ⟨Floor.refl _ _, empty _ fun μ Mt w c h => ?_⟩
      cases h with
      | sl => exact ⟨_, _, rfl⟩
      | sl0 => exact ⟨_, _, rfl⟩
    · rename_i h0
      split at hg
      · rename_i hb
        obtain ⟨hbase, rfl, hn62⟩ := hb
        split at hg
        · rename_i c hc
          split at hg
          · rename_i zs hzs
            split at hg
            · rename_i hl
              cases hg
              refine ⟨⟨by simp, fun j hj _ => by rw [List.getElem?_set_ne (by omega)]⟩, ?_⟩
              intro μ Mt w cs hH hvs m
              obtain ⟨h1, h2⟩ := hvs
              have hmap := intsOf_eq hzs
              have hzl : zs.length = n := by
                have := congrArg List.length hmap
                simp at this
                omega
              match cs, h1 with
              | [c1], _ =>
                have hv := h2 0 _ c1 rfl rfl
                cases hv with
                | sl0 => exact absurd rfl h0
                | sl _ _ _ _ _ B b cap arr el hm hB hcap hsz =>
                  obtain ⟨arr', el', hB', hsz', hrd⟩ := hH.row hc hm
                  rw [hB] at hB'
                  cases hB'
                  have hcell : ∀ j, j < n → arr[b + off + j]? = some (.int .i64 zs[j]!) := by
                    intro j hj
                    have hcj : c[off + j]? = some (iV zs[j]!) := by
                      have : ((c.drop off).take n)[j]? = (zs.map iV)[j]? := by rw [hmap]
                      rw [List.getElem?_take_of_lt hj, List.getElem?_drop] at this
                      rw [this]
                      have hj' : j < zs.length := by omega
                      simp [hj']
                    have hlt : b + (off + j) < arr.size := by
                      have := (List.getElem?_eq_some_iff.1 hcj).1
                      omega
                    have ha : arr[b + (off + j)]? = some arr[b + (off + j)] := Array.getElem?_eq_getElem hlt
                    have hvr := hrd (off + j) _ _ hcj ha
                    have := vr_s hvr
                    rw [Nat.add_assoc, ha, this]
                  have hH0 : Sort.Holds (Value.int .i64) w B (b + off) zs.toArray := by
                    intro j hj
                    have hj' : j < n := by simpa [hzl] using hj
                    refine ⟨?_, ?_⟩
                    · simp only [World.cell?, hB]
                      have := hcell j hj'
                      simpa using this
                    · simp [World.frozen?, hB]
                  have hsl : (sortZ zs).length = n := by rw [sortZ, List.length_mergeSort, hzl]
                  have hcl := hs B (b + off) cap zs w hH0 (lt_of_some hB) (by omega)
                  rw [hzl] at hcl
                  refine callsIn_wide.2 (hcl.mono ?_)
                  rintro e w' ⟨rfl, nn, os, rfl⟩
                  have hone : ((sortZ zs).map iV).all V.one = true := by
                    rw [List.all_eq_true]
                    intro x hx
                    obtain ⟨z, _, rfl⟩ := List.mem_map.1 hx
                    rfl
                  have hvr : VRs μ Mt w ((sortZ zs).map iV) ((sortZ zs).map (Value.int .i64)) := by
                    refine ⟨by simp, fun i a b ha hb => ?_⟩
                    rw [List.getElem?_map] at ha hb
                    cases hz : (sortZ zs)[i]? with
                    | none => rw [hz] at ha; cases ha
                    | some z => rw [hz] at ha hb; cases ha; cases hb; exact .s _
                  obtain ⟨w1, hrun, hpost⟩ := post_store (P := P) hH hc hm (off := off) (vs := (sortZ zs).map iV) (us := (sortZ zs).map (Value.int .i64)) (by simp [hsl]; omega) hvr hone
                  have hrun2 := run_storeCells_at P B (b + off) el ((sortZ zs).map (Value.int .i64)) 0 arr w hB (by simp [hsl]; omega) (vrs_one hvr hone)
                  rw [hrun] at hrun2
                  have hw1 : w1 = w.setRow B (arr.toList.take (b + off) ++ (sortZ zs).map (Value.int .i64) ++ arr.toList.drop (b + off + ((sortZ zs).map (Value.int .i64)).length)).toArray := by
                    simpa using hrun2
                  have hheap : (Sort.putRow (Value.int .i64) w B (b + off) (sortZ zs).toArray).heap = w1.heap := by
                    rw [hw1]
                    apply Array.ext_getElem?
                    intro i
                    simp only [Sort.putRow, Sort.mapBlock, World.setRow, Array.getElem?_modify]
                    by_cases hi : B = i
                    · subst hi
                      simp only [if_true, hB, Option.map_some, Sort.onCells]
                      rw [putCells_eq _ _ _ _ (by rw [hsl]; omega), List.length_map]
                    · simp [hi]
                  have hg := post_ghosts os.toList _ (Sort.grow (Sort.putRow (Value.int .i64) (Sort.ahead w nn) B (b + off) (sortZ zs).toArray) os) hpost.hr (by
                    show (Sort.putRow (Value.int .i64) w B (b + off) (sortZ zs).toArray).heap ++ os = _
                    rw [hheap]) (by rw [hw1]; rfl) (by rw [hw1]; rfl) (by rw [hw1]; rfl)
                  exact ⟨_, _, _, rfl, .s _, hpost.trans hg⟩
            · cases hg
          · cases hg
        · cases hg
      · cases hg
  · cases hg
end
end Go.AM
