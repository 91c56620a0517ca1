/- Texts of the proof: GraphArg. -/
import Derived.Test.YtmnlagcmpgilaaaP0
import Derived.Test.YtmnlagcmpgilaaaP1
import Derived.Test.YtmnlagcmpgilaaaP2
import Derived.Test.YtmnlagcmpgilaaaP3
import Derived.Test.YtmnlagcmpgilaaaP4
set_option linter.all false
set_option maxRecDepth 100000
namespace Go.Proofs.Ytmnlagcmpgilaaa
open Go.AM
def tGraph : Ty := .sl (.sl (.int .i64))
theorem ints_of : ∀ es : List (List V), (∀ x ∈ es, IsV (.int .i64) x) → ∃ l : List Int, es = (l.map iV).map fun x => [x] := by
  intro es
  induction es with
  | nil => intro _; exact ⟨[], rfl⟩
  | cons e es ih =>
    intro h
    obtain ⟨n, rfl, _⟩ := h e List.mem_cons_self
    obtain ⟨l, rfl⟩ := ih fun x hx => h x (List.mem_cons_of_mem _ hx)
    exact ⟨n :: l, rfl⟩
theorem one_wide (l : List V) : Wide1 (.psl (l.map fun x => [x]) 1) := by
  intro e he
  rw [List.mem_map] at he
  obtain ⟨x, _, rfl⟩ := he
  rfl
theorem row_of {v : List V} (h : IsV (.sl (.int .i64)) v) : ∃ u, v = [u] ∧ ∃ l : List Int, (∀ H, Rd H u (l.map iV)) ∧ Wide1 u ∧ l.length < 2 ^ 63 := by
  rcases h with rfl | ⟨es, rfl, hl, he⟩
  · exact ⟨nilS, rfl, [], fun H => Rd.nil H, trivial, by decide⟩
  · obtain ⟨l, rfl⟩ := ints_of es he
    refine ⟨_, rfl, l, fun H => Rd.psl H _, one_wide _, ?_⟩
    simp only [List.length_map, maxLen] at hl
    omega
theorem graph_of {v : List V} (h : IsV tGraph v) : ∃ u, v = [u] ∧ ∃ G : List (List Int), ∀ H, RdRows H u (rowsV G) := by
  rcases h with rfl | ⟨es, rfl, hl, he⟩
  · exact ⟨nilS, rfl, [], fun H => ⟨[], Rd.nil H, trivial, rfl, fun i r hr => by simp [rowsV] at hr⟩⟩
  · have : ∀ es : List (List V), (∀ x ∈ es, IsV (.sl (.int .i64)) x) → ∃ (us : List V) (G : List (List Int)), es = (us.map fun x => [x]) ∧ us.length = G.length ∧ ∀ (i : Nat) (r : List Int), G[i]? = some r → ∃ x, us[i]? = some x ∧ (∀ H, Rd H x (r.map iV)) ∧ Wide1 x := by
      intro es
      induction es with
      | nil => intro _; exact ⟨[], [], rfl, rfl, fun i r hr => by simp at hr⟩
      | cons e es ih =>
        intro h
        obtain ⟨u, rfl, l, q1, q2, _⟩ := row_of (h e List.mem_cons_self)
        obtain ⟨us, G, rfl, h1, h2⟩ := ih fun x hx => h x (List.mem_cons_of_mem _ hx)
        refine ⟨u :: us, l :: G, rfl, by simp [h1], fun i r hr => ?_⟩
        cases i with
        | zero => cases hr; exact ⟨u, rfl, q1, q2⟩
        | succ i => exact h2 i r hr
    obtain ⟨us, G, rfl, h1, h2⟩ := this es he
    refine ⟨_, rfl, G, fun H => ⟨us, Rd.psl H us, one_wide us, by rw [rowsV_len]; exact h1, fun i r hr => ?_⟩⟩
    rw [rowsV, List.getElem?_map, Option.map_eq_some_iff] at hr
    obtain ⟨g, hg, rfl⟩ := hr
    obtain ⟨x, q1, q2, q3⟩ := h2 i g hg
    exact ⟨x, q1, q2 H, q3⟩
end Go.Proofs.Ytmnlagcmpgilaaa
