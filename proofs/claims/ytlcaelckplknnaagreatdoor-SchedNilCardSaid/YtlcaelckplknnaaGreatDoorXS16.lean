/- XS: what a law's statement asks of its call: true, and all that was there is as it was. -/
import Derived.Test.YtlcaelckplknnaaGreatDoorXS15
import Derived.ChangeSame
import Derived.ReadAgain
import Derived.ChangeArms
set_option linter.unusedVariables false
set_option linter.unusedSimpArgs false
namespace Go.XC
open Go Go.SX
variable {H : Type} {enc : TypeId × Value → H} {P : Program}

theorem sameAt_of {w w' : World} (hk : ∀ b, b < w.heap.size → w'.heap[b]? = w.heap[b]?) {p : MemPlace} (hp : p.block < w.heap.size) : w.sameAt w' p := by
  cases p with
  | cell b off => show w'.cell? ⟨b, off, none⟩ = w.cell? ⟨b, off, none⟩; unfold World.cell?; rw [hk b hp]
  | map b => exact hk b hp

/-- arguments read behind the call as they did before -/
theorem args_again {T : TypeId → Prop} (K : Kids P T) (hz : ∀ t e, T t → P.underlying t = some (.slice e) → 0 < P.cellsOf e) {w w' : World} (hk : ∀ b, b < w.heap.size → w'.heap[b]? = w.heap[b]?) {sp : Nat → Bool} :
    ∀ {ts : List TypeId} {vs : List Value} {ds : List (DataW H)} {ps : List MemPlace}, (∀ t ∈ ts, T t) → DataW.TrodAll enc P w 0 (fun _ => true) true ts vs ds ps → (∀ p ∈ ps, p.block < w.heap.size) → (∀ p ∈ ps, sp p.block = true) → DataW.TrodAll enc P w' 0 sp true ts vs ds ps := by
  intro ts vs ds ps hT h hlt hs
  have h1 := DataW.TrodAll.respare K hz hT h hs
  clear h
  induction ts generalizing vs ds ps with
  | nil =>
    cases vs <;> cases ds <;> first | exact h1 | exact h1.elim
  | cons t ts ih =>
    cases vs with
    | nil => cases ds <;> exact h1.elim
    | cons v vs =>
      cases ds with
      | nil => exact h1.elim
      | cons d ds =>
        obtain ⟨p, q, ⟨fuel, hf⟩, h3, rfl⟩ := h1
        refine ⟨p, q, ⟨fuel, DataW.trod_carry _ _ _ _ hf fun x hx => sameAt_of hk (hlt x (List.mem_append_left _ hx))⟩, ?_, rfl⟩
        exact ih (fun t ht => hT t (List.mem_cons_of_mem _ ht)) (fun x hx => hlt x (List.mem_append_right _ hx)) (fun x hx => hs x (List.mem_append_right _ hx)) h3

/-- the whole post of a law without named variables: it has answered true, and all is as it was -/
theorem law_post {f : Func} {s : ChangeSpec} {apart fresh handsOn again : Bool} {T : TypeId → Prop} (K : Kids P T) (hz : ∀ t e, T t → P.underlying t = some (.slice e) → 0 < P.cellsOf e) {W W' : World} {args : Array Value} {ds gs : List (DataW H)} {before : List MemPlace} {tb : TypeId}
    (hT : ∀ t ∈ f.params.toList, T t) (hvars : s.vars = []) (hb : f.resultTypes = #[tb]) (hub : P.underlying tb = some .bool)
    (hfn : (s.fn H (ds ++ gs)).results = [.lit (.bool true)] ∧ (s.fn H (ds ++ gs)).args = ds ∧ (s.fn H (ds ++ gs)).vars = [])
    (hW : DataW.Whole enc P f.params.toList s.vars apart W args.toList ds gs before) (hk : Kept W W') : s.post enc P f apart fresh handsOn again W args (.bool true) W' := by
  have hW' := hW
  obtain ⟨p, q, hA, hV, rfl, hfz, hnd⟩ := hW
  rw [hvars] at hV
  have hq : q = [] ∧ gs = [] := by
    cases gs with
    | nil => exact ⟨hV, rfl⟩
    | cons g gs => exact hV.elim
  obtain ⟨rfl, rfl⟩ := hq
  have hlt := DataW.TrodAll.lt hA
  have hres : ∀ (b : Nat) (sp : Nat → Bool) (hd : Bool), DataW.TrodAll enc P W' b sp hd [tb] [.bool true] [.lit (.bool true)] [] := fun b sp hd => Go.ChangeShapes.trodAll_mk1 (Go.RowKit.shut_bool hub true)
  refine Go.ChangeShapes.post_of_same (pa := p) (pv := []) hW' (fun b sp hd => ?_) (fun sp hsp => ?_) (fun sp _ => ?_) rfl (hk.grown.frame _) hk.grown.2.1 (fun j t r hj hr => ?_)
  · rw [hfn.1, hb]; exact hres b sp hd
  · rw [hfn.2.1]; exact args_again K hz hk.2.1 hT hA hlt (fun x hx => hsp x (List.mem_append_left _ hx))
  · rw [hfn.2.2, hvars]; rfl
  · rw [hb] at hj hr
    cases j with
    | zero =>
      simp at hj
      subst hj
      have hr' : some (Value.bool true) = some r := hr
      obtain rfl := Option.some.inj hr'
      exact Go.RowKit.okWide_bool_mk hub true
    | succ j => simp at hj

end Go.XC
