/-
  From the machine's answer to a row's contract.
-/
import Derived.Test.YtmnlagcmpgilaaaAm22
import Derived.ProofKit
import Derived.ReadAgain
set_option linter.all false
namespace Go.AM
open Go.RowKit Go.ChangeShapes Go.WideShapes Go.ChangeAt

section
variable {P : Program} {pure' : Nat → Bool} {CP : Nat → Option CFun} {H : Type} {enc : TypeId × Value → H}

theorem kept_of {w w' : World} {may : MemPlace → Prop} (hk : ∀ B, B < w.heap.size → w'.heap[B]? = w.heap[B]?) (ht : Tr (fun _ _ => none) w w') : w.keptBut w' may := by
  refine ⟨ht.os, ht.output, fun i hi => ?_⟩
  rw [hk i hi]
  cases w.heap[i]? with
  | none => rfl
  | some o => cases o <;> simp

/-- What is behind a call that gives one thing and leaves what lay there. -/
theorem post_left {f : Func} {s : ChangeSpec} {again : Bool} {W W' : World} {args : Array Value} {v : Value} {ds gs : List (DataW H)} {before : List MemPlace}
    (hW : DataW.Whole enc P f.params.toList s.vars false W args.toList ds gs before) {pa pv : List MemPlace}
    (hres : ∀ (b : Nat) (sp : Nat → Bool) (hd : Bool), DataW.TrodAll enc P W' b sp hd f.resultTypes.toList (v.resultList f.resultTypes.size) (s.fn H (ds ++ gs)).results [])
    (hargs : ∀ sp : Nat → Bool, (∀ p ∈ before, sp p.block = true) → DataW.TrodAll enc P W' 0 sp true f.params.toList args.toList (s.fn H (ds ++ gs)).args pa)
    (hvars : ∀ sp : Nat → Bool, (∀ p ∈ before, sp p.block = true) → DataW.TrodVars enc P W' sp s.vars (s.fn H (ds ++ gs)).vars pv)
    (hps : before = pa ++ pv) (hk : W.keptBut W' (· ∈ before)) (hfz : ∀ b off, MemPlace.cell b off ∈ before → W'.frozen? ⟨b, off, none⟩ = W.frozen? ⟨b, off, none⟩)
    (hok : ∀ (j : Nat) (t : TypeId) (r : Value), f.resultTypes[j]? = some t → (v.resultList f.resultTypes.size)[j]? = some r → Value.okWide P W' .any 0 t r) :
    s.post enc P f false true false again W args v W' := by
  have old : ∀ p ∈ before, (fun b => decide (b < W.heap.size)) p.block = true := fun p hp => by simpa using hW.lt p hp
  refine ⟨ds, gs, before, [], pa, pv, hW, hres _ _ _, hargs _ old, hvars _ old, World.keptBut_mono (fun p hp => ⟨hp, ?_⟩) hk, fun _ => ?_⟩
  · rw [hps, List.mem_append] at hp
    exact .inr hp
  · obtain ⟨_, _, _, _, _, hz, _⟩ := hW
    refine ⟨hok, _, _, ([] ++ pa) ++ pv, ⟨[] ++ pa, pv, trodAll_append (hargs _ fun _ _ => rfl) (hres _ _ _), hvars _ fun _ _ => rfl, rfl, fun b off hp => ?_, fun h => by cases h⟩, fun p hp _ => by rw [hps]; simpa using hp⟩
    have hb : MemPlace.cell b off ∈ before := by rw [hps]; simpa using hp
    rw [hfz b off hb]
    exact hz b off hb

theorem trodAll_carry {w w' : World} {base : Nat} {sp : Nat → Bool} {held : Bool} : ∀ {ts : List TypeId} {vs : List Value} {ds : List (DataW H)} {ps : List MemPlace}, DataW.TrodAll enc P w base sp held ts vs ds ps → (∀ p ∈ ps, w.sameAt w' p) → DataW.TrodAll enc P w' base sp held ts vs ds ps
  | [], [], [], _, h, _ => h
  | _ :: _, _ :: _, _ :: _, _, ⟨p, q, ⟨n, h1⟩, h2, e⟩, hs => ⟨p, q, ⟨n, DataW.trod_carry n _ _ _ h1 (fun x hx => hs x (by rw [e]; exact List.mem_append_left _ hx))⟩, trodAll_carry h2 (fun x hx => hs x (by rw [e]; exact List.mem_append_right _ hx)), e⟩

theorem trodAll_length {w : World} {base : Nat} {sp : Nat → Bool} {held : Bool} : ∀ {ts : List TypeId} {vs : List Value} {ds : List (DataW H)} {ps : List MemPlace}, DataW.TrodAll enc P w base sp held ts vs ds ps → ds.length = ts.length
  | [], [], [], _, _ => rfl
  | _ :: _, _ :: _, _ :: _, _, ⟨_, _, _, h2, _⟩ => by simp [trodAll_length h2]

theorem sameAt_of {w w' : World} {p : MemPlace} (h : w'.heap[p.block]? = w.heap[p.block]?) : w.sameAt w' p := by
  cases p with
  | cell b off =>
    show w'.cell? ⟨b, off, none⟩ = w.cell? ⟨b, off, none⟩
    have h : w'.heap[b]? = w.heap[b]? := h
    simp only [World.cell?, h]
  | map b => exact h

/-- **A LAW THAT GIVES true.** -/
theorem law_contract (hmix : P.follows .mixedOrders = true) (hCP : ∀ k c, CP k = some c → FunOk P pure' k c) (hl : laidOutB P = true) (hm : mapsRowed P = true)
    (hz : ((List.range P.types.size).all fun t => match P.underlying t with | some (.slice e) => decide (0 < P.cellsOf e) | _ => true) = true)
    {k : Nat} {fn : Func} {s : ChangeSpec} {tb : TypeId} (hvars : s.vars = []) (hres : fn.resultTypes = #[tb]) (htb : P.underlying tb = some .bool) (hpar : ∀ t ∈ fn.params.toList, t < P.types.size)
    (hspec : ∀ ds : List (DataW H), ds.length = fn.params.toList.length → s.fn H ds = { results := [.lit (.bool true)], args := ds })
    {W : World} {args : Array Value} {ds gs : List (DataW H)} {before : List MemPlace} (hW : DataW.Whole enc P fn.params.toList s.vars false W args.toList ds gs before)
    (hv : ∃ vs, VRs (fun _ _ => none) (fun _ => False) W vs args.toList ∧ ∃ n H', callN CP n (.fn k [] []) vs 0 [] = some (bl true, H')) :
    Calls P k args W fun e W' => ∃ v, e = .returned v ∧ s.post enc P fn false true false false W args v W' := by
  obtain ⟨vs, hvs, n, H', hc⟩ := hv
  refine (callN_calls hmix hCP hc hvs).mono ?_
  rintro e W' ⟨c, μ', Mt', rfl, hr, hk, htr⟩
  have hcv : c = .bool true := vr_s hr
  subst hcv
  have hlt := hW.lt
  have hW0 := hW
  obtain ⟨p, q, h1, h2, e1, h3, h4⟩ := hW
  rw [hvars] at h2
  obtain ⟨rfl, rfl⟩ : gs = [] ∧ q = [] := by
    cases gs with
    | nil => exact ⟨rfl, h2⟩
    | cons g gs => exact h2.elim
  have hbp : before = p := by simpa using e1
  have hds := trodAll_length h1
  have hfn : s.fn H (ds ++ []) = { results := [.lit (.bool true)], args := ds } := by rw [List.append_nil]; exact hspec ds hds
  refine ⟨_, rfl, post_left (pa := before) (pv := []) hW0 (fun b sp hd => ?_) (fun sp hsp => ?_) (fun sp _ => ?_) (by simp) (kept_of hk htr) (fun b off hp => ?_) (ok_one hres rfl (okWide_bool_mk htb true))⟩
  · rw [hfn, hres]
    exact ⟨[], [], ⟨1, by simp [DataW.trod, Value.cells, htb]⟩, rfl, rfl⟩
  · rw [hfn]
    have h5 := DataW.TrodAll.respare (kids_rows hl hm) (fun t e ht he => slices_full_of P hz t e ht he) hpar h1 (spare' := sp) (fun x hx => hsp x (by rw [hbp]; exact hx))
    rw [hbp]
    exact trodAll_carry h5 fun x hx => sameAt_of (hk _ (hlt x (by rw [hbp]; exact hx)))
  · rw [hfn, hvars]; rfl
  · simp only [World.frozen?, hk b (hlt _ hp)]
end
end Go.AM
