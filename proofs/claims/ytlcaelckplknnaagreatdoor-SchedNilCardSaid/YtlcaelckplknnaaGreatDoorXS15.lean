/- XS: runs from nothing that come to a plain value. -/
import Derived.Test.YtlcaelckplknnaaGreatDoorXS14
set_option linter.unusedVariables false
set_option linter.unusedSimpArgs false
namespace Go.XC
open Go Go.SX
variable {P : Program}

/-- what a call comes to: a plain value, and all is as it was -/
theorem run_lit (hN : noNum P) (hmx : P.follows .mixedOrders = true) {sm : Sm} (hsm : SmOk P sm) {n f : Nat} {args : List A} {u : Value} (h : (xF P sm n f args (st0 []) fun a _ => some a) = some (.lit u))
    {vs : List Value} (hv : concL ⟨fun _ => none, fun _ => none, fun _ => none⟩ args = some vs) (w : World) : cl P f vs (fun v w' => v = u ∧ Kept w w') w := by
  obtain ⟨a, s', h1, h2⟩ := xF_ok hN hmx hsm n f args (st0 []) _ _ h
  obtain rfl := Option.some.inj h1
  refine cl_mono (h2 _ w vs (rel0 (fun i r hi => by simp at hi) w) hv) ?_
  rintro v w' hrest ⟨V', hm, hc⟩
  exact ⟨lit_conc hc, hrest, fun b hb => hm.frame b hb fun id hl => (by obtain ⟨B, hB⟩ := hl; cases hB), hm.nf⟩

end Go.XC
