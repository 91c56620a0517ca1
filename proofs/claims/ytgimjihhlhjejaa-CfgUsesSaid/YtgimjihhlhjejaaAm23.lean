/-
  From the machine's answer to a row's contract.
-/
import Derived.Test.YtgimjihhlhjejaaAm22
import Derived.ProofKit
import Derived.ReadAgain
set_option linter.all false
namespace Go.AM
open Go.RowKit Go.ChangeShapes Go.WideShapes Go.ChangeAt

section
variable {P : Program} {pure' : Nat → Bool} {CP : Nat → Option CFun} {H : Type} {enc : TypeId × Value → H}

theorem grown_of {w w' : World} (hk : ∀ B, B < w.heap.size → w'.heap[B]? = w.heap[B]?) (ht : Tr (fun _ _ => none) w w') : Grown w w' := by
  refine ⟨⟨ht.os, ht.output, fun i hi => ?_⟩, fun a => ?_, ht.size⟩
  · rw [hk i hi]
    cases w.heap[i]? with
    | none => rfl
    | some o => cases o <;> simp
  · by_cases ha : a.block < w.heap.size
    · simp only [World.frozen?, hk _ ha]
    · have h0 : w.heap[a.block]? = none := Array.getElem?_eq_none (by omega)
      simp only [World.frozen?, h0]
      cases h1 : w'.heap[a.block]? with
      | none => rfl
      | some o =>
        cases o with
        | cells arr e fr =>
          rcases ht.back a.block arr e fr h1 with ⟨_, h2⟩ | ⟨_, h2⟩
          · rw [h0] at h2; cases h2
          · subst h2; simp
        | _ => rfl

theorem trodAll_carry {w w' : World} {base : Nat} {sp : Nat → Bool} {held : Bool} : ∀ {ts : List TypeId} {vs : List Value} {ds : List (DataW H)} {ps : List MemPlace}, DataW.TrodAll enc P w base sp held ts vs ds ps → (∀ p ∈ ps, w.sameAt w' p) → DataW.TrodAll enc P w' base sp held ts vs ds ps
  | [], [], [], _, h, _ => h
  | _ :: _, _ :: _, _ :: _, _, ⟨p, q, ⟨n, h1⟩, h2, e⟩, hs => ⟨p, q, ⟨n, DataW.trod_carry n _ _ _ h1 (fun x hx => hs x (by rw [e]; exact List.mem_append_left _ hx))⟩, trodAll_carry h2 (fun x hx => hs x (by rw [e]; exact List.mem_append_right _ hx)), e⟩

theorem trodAll_length {w : World} {base : Nat} {sp : Nat → Bool} {held : Bool} : ∀ {ts : List TypeId} {vs : List Value} {ds : List (DataW H)} {ps : List MemPlace}, DataW.TrodAll enc P w base sp held ts vs ds ps → ds.length = ts.length
  | [], [], [], _, _ => rfl
  | _ :: _, _ :: _, _ :: _, _, ⟨_, _, _, h2, _⟩ => by simp [trodAll_length h2]

theorem sameAt_of {w w' : World} {p : MemPlace} (h : w'.heap[p.block]? = w.heap[p.block]?) : w.sameAt w' p := by
  cases p with
  | cell b off =>
    show w'.cell? ⟨b, off, none⟩ = w.cell? ⟨b, off, none⟩
    have h : w'.heap[b]? = w.heap[b]? := h
    simp only [World.cell?, h]
  | map b => exact h

/-- **A LAW THAT GIVES true.** -/
theorem law_contract (hmix : P.follows .mixedOrders = true) (hCP : ∀ k c, CP k = some c → FunOk P pure' k c) (hl : laidOutB P = true) (hm : mapsRowed P = true)
    (hz : ((List.range P.types.size).all fun t => match P.underlying t with | some (.slice e) => decide (0 < P.cellsOf e) | _ => true) = true)
    {k : Nat} {fn : Func} {s : ChangeSpec} {tb : TypeId} (hvars : s.vars = []) (hres : fn.resultTypes = #[tb]) (htb : P.underlying tb = some .bool) (hpar : ∀ t ∈ fn.params.toList, t < P.types.size)
    (hspec : ∀ ds : List (DataW H), ds.length = fn.params.toList.length → s.fn H ds = { results := [.lit (.bool true)], args := ds })
    {W : World} {args : Array Value} {ds gs : List (DataW H)} {before : List MemPlace} (hW : DataW.Whole enc P fn.params.toList s.vars false W args.toList ds gs before)
    (hv : ∃ vs, VRs (fun _ _ => none) (fun _ => False) W vs args.toList ∧ ∃ n H', callN CP n (.fn k [] []) vs 0 [] = some (bl true, H')) :
    Calls P k args W fun e W' => ∃ v, e = .returned v ∧ s.post enc P fn false true false false W args v W' := by
  obtain ⟨vs, hvs, n, H', hc⟩ := hv
  refine (callN_calls hmix hCP hc hvs).mono ?_
  rintro e W' ⟨c, μ', Mt', rfl, hr, hk, htr⟩
  have hcv : c = .bool true := vr_s hr
  subst hcv
  have hg := grown_of hk htr
  have hlt := hW.lt
  have hW0 := hW
  obtain ⟨p, q, h1, h2, e1, h3, h4⟩ := hW
  rw [hvars] at h2
  obtain ⟨rfl, rfl⟩ : gs = [] ∧ q = [] := by
    cases gs with
    | nil => exact ⟨rfl, h2⟩
    | cons g gs => exact h2.elim
  have hbp : before = p := by simpa using e1
  have hds := trodAll_length h1
  have hfn : s.fn H (ds ++ []) = { results := [.lit (.bool true)], args := ds } := by rw [List.append_nil]; exact hspec ds hds
  refine ⟨_, rfl, post_of_same (pa := before) (pv := []) hW0 (fun b sp hd => ?_) (fun sp hsp => ?_) (fun sp _ => ?_) (by simp) (hg.frame _) hg.2.1 (ok_one hres rfl (okWide_bool_mk htb true))⟩
  · rw [hfn, hres]
    exact ⟨[], [], ⟨1, by simp [DataW.trod, Value.cells, htb]⟩, rfl, rfl⟩
  · rw [hfn]
    have h5 := DataW.TrodAll.respare (kids_rows hl hm) (fun t e ht he => slices_full_of P hz t e ht he) hpar h1 (spare' := sp) (fun x hx => hsp x (by rw [hbp]; exact hx))
    rw [hbp]
    exact trodAll_carry h5 fun x hx => sameAt_of (hk _ (hlt x (by rw [hbp]; exact hx)))
  · rw [hfn, hvars]; rfl
end
end Go.AM
