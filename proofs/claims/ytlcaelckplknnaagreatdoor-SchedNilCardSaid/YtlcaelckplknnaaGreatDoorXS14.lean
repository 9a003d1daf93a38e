/- XS: runs from nothing: what they tell of every world. -/
import Derived.Test.YtlcaelckplknnaaGreatDoorXS13
import Derived.RowKit3
set_option linter.unusedVariables false
set_option linter.unusedSimpArgs false
namespace Go.XC
open Go Go.SX
variable {P : Program}

def isTrue (o : Option A) : Bool := match o with
  | some (.lit (.bool true)) => true
  | _ => false
def noSm : Sm := fun _ _ _ => none
theorem noSm_ok : SmOk P noSm := fun f args s a s' h => by cases h
/-- nothing is known but numbers between others -/
def st0 (iv : List (Int × Int)) : St := { h := .nil, nb := 0, nc := 0, iv := iv }
theorem rel0 {iv : List (Int × Int)} {σ : Nat → Option Int} (h : ∀ i r, iv[i]? = some r → ∃ x, σ i = some x ∧ r.1 ≤ x ∧ x ≤ r.2) (w : World) : Rel ⟨fun _ => none, fun _ => none, σ⟩ (st0 iv) w where
  nb := fun _ _ => rfl
  nc := fun _ _ => rfl
  blk := fun id B h => by cases h
  inj := fun id id' b h => by obtain ⟨B, h⟩ := h; cases h
  iv := h

/-- all that was there is as it was -/
def Kept (w w' : World) : Prop := SX.Rest w w' ∧ (∀ b, b < w.heap.size → w'.heap[b]? = w.heap[b]?) ∧ ∀ a : Addr, w.heap.size ≤ a.block → w'.frozen? a = false
theorem Kept.grown {w w' : World} (h : Kept w w') : Go.RowKit.Grown w w' := by
  obtain ⟨hr, hb, hn⟩ := h
  refine ⟨⟨hr.os, hr.output, fun i hi => ?_⟩, fun a => ?_, hr.size⟩
  · rw [hb i hi]
    cases w.heap[i]? with
    | none => rfl
    | some o => cases o <;> first | exact ⟨rfl, rfl, rfl, fun _ _ => rfl⟩ | exact .inr ⟨rfl, rfl⟩ | rfl
  · rcases Nat.lt_or_ge a.block w.heap.size with hlt | hge
    · exact frozen_frz' hr hlt
    · rw [hn a hge, frozen_none hge]

theorem run_true (hN : noNum P) (hmx : P.follows .mixedOrders = true) {sm : Sm} (hsm : SmOk P sm) {n f : Nat} {args : List A} {iv : List (Int × Int)} (h : isTrue (xF P sm n f args (st0 iv) fun a _ => some a) = true)
    {σ : Nat → Option Int} (hσ : ∀ i r, iv[i]? = some r → ∃ x, σ i = some x ∧ r.1 ≤ x ∧ x ≤ r.2) {vs : List Value} (hv : concL ⟨fun _ => none, fun _ => none, σ⟩ args = some vs) (w : World) :
    cl P f vs (fun v w' => v = .bool true ∧ Kept w w') w := by
  cases hx : xF P sm n f args (st0 iv) fun a _ => some a with
  | none => rw [hx] at h; cases h
  | some r =>
    obtain ⟨a, s', h1, h2⟩ := xF_ok hN hmx hsm n f args (st0 iv) _ r hx
    obtain rfl := Option.some.inj h1
    have hr : a = .lit (.bool true) := by
      rw [hx] at h
      unfold isTrue at h
      split at h
      · rename_i h3; exact Option.some.inj h3
      · cases h
    subst hr
    refine cl_mono (h2 _ w vs (rel0 hσ w) hv) ?_
    rintro v w' hrest ⟨V', hm, hc⟩
    exact ⟨lit_conc hc, hrest, fun b hb => hm.frame b hb fun id hl => (by obtain ⟨B, hB⟩ := hl; cases hB), hm.nf⟩

/-- a function without parameters that answers true and leaves all as it was -/
def smT (f : Nat) : Sm := fun g args s => match Nat.beq g f, args with
  | true, [] => some (.lit (.bool true), s)
  | _, _ => none
theorem smT_ok {f : Nat} (h : ∀ w, cl P f [] (fun v w' => v = .bool true ∧ Kept w w') w) : SmOk P (smT f) := by
  intro g args s a s' hs V w vs hR hv
  unfold smT at hs
  split at hs
  · rename_i hb
    simp only [Option.some.injEq, Prod.mk.injEq] at hs
    obtain ⟨rfl, rfl⟩ := hs
    obtain rfl := beq_iff hb
    simp only [concL, Option.some.injEq] at hv; subst hv
    refine cl_mono (h w) ?_
    rintro v w' hr ⟨rfl, hk⟩
    exact ⟨V, garbage hR hk.2.1 hk.1 hk.2.2, rfl⟩
  · cases hs

end Go.XC
