/- The function that defers 'ends', as known to the executor of runs. -/
import Derived.Test.YtlcaelckplknnaaGreatDoorDoA
set_option linter.unusedVariables false
set_option linter.unusedSimpArgs false
set_option maxRecDepth 100000
namespace Go.TB
open Go Go.SX Go.XC Go.Proofs

theorem noNum_prog : noNum Tryz.prog := (by kernel_rfl : Tryz.prog.funcs.all (fun fn => !(fn.name == "runtime.NumGoroutine")) = true)
theorem mixed_prog : Tryz.prog.follows .mixedOrders = true := by kernel_rfl

def do0 : Oper := { dst := some 3, op := .move (.tmp 0), type := 114, pos := "exec.go:95", after := #[], guard := none }
def do1 : Oper := { dst := none, op := .defer { callee := .value (.func 98), args := #[.tmp 3], argTypes := #[114] }, type := 0, pos := "exec.go:95", after := #[{ on := 0, ground := Ground.data }], guard := none }
noncomputable def doRest : Code := match Tryz.f65.body with
  | some (.seq _ c) => c
  | _ => .skip
theorem do_body : Tryz.f65.body = some (.seq (.region 0 #[do0, do1] false) doRest) := by kernel_rfl
theorem do_n : Tryz.f65.ntmps = 96 := by kernel_rfl
theorem do_res : Tryz.f65.results = #[] := by kernel_rfl
theorem do_chk : chkC 96 doRest = true := by kernel_rfl
theorem do_name : (Tryz.f98.name == "runtime.NumGoroutine") = false := by kernel_rfl

noncomputable def smDo (n : Nat) : Sm := fun g args s => match Nat.beq g 65, args with
  | true, [.ptr b o] => argsX 0 [.ptr b o] .nil fun E => xc Tryz.prog noSm n doRest E s (fun _ s => some (.tup [], s)) (fun _ _ _ => none) (fun _ s => some (.tup [], s))
  | _, _ => none

theorem smDo_ok (n : Nat) : SmOk Tryz.prog (smDo n) := by
  intro f args s a s' h V w vs hR hv
  unfold smDo at h
  split at h
  · rename_i b o hf
    obtain rfl := Nat.eq_of_beq_eq_true hf
    obtain ⟨E, h, hE⟩ := argsX_inv _ _ _ _ _ h
    obtain ⟨out, h, ho⟩ := xc_ok noNum_prog mixed_prog noSm_ok n _ _ _ _ _ _ _ h
    obtain ⟨v, us, h1, h2, rfl⟩ := concL_cons hv
    simp only [concL, Option.some.injEq] at h2; subst h2
    have hp : ∃ q, v = .pointer (some q) := by
      simp only [conc, Option.map_eq_some_iff] at h1
      obtain ⟨x, _, rfl⟩ := h1
      exact ⟨_, rfl⟩
    obtain ⟨q, rfl⟩ := hp
    refine calls_of_wp_defers Tryz.func65 do_body (wp_seq (wp_region ?_))
    have hsz : (([.pointer (some q)] : List Value).toArray ++ Array.replicate (Tryz.f65.ntmps - ([.pointer (some q)] : List Value).toArray.size) undef).size = 96 := by rw [do_n]; simp
    have ht0 : (([.pointer (some q)] : List Value).toArray ++ Array.replicate (Tryz.f65.ntmps - ([.pointer (some q)] : List Value).toArray.size) undef).getD 0 undef = .pointer (some q) := by rw [Array.getD_eq_getD_getElem?, Array.getElem?_append_left (by simp)]; simp
    generalize (([.pointer (some q)] : List Value).toArray ++ Array.replicate (Tryz.f65.ntmps - ([.pointer (some q)] : List Value).toArray.size) undef) = tm at hsz ht0
    show wpOps _ _ _ [0, 1] _ _
    refine ops_val (o := do0) (v := .pointer (some q)) (w' := w) rfl rfl (by simp only [execOp, do0, Act.eval, Sem.run_pure, ht0]) ?_
    refine ops_def (o := do1) (d := { target := .fn (.func 98) #[], args := #[.pointer (some q)] }) rfl rfl (by simp [execOp, do1, do0, resolve, Deferred.ofValue, Act.put, Act.eval, hsz]) ?_
    show Code.wp _ _ _ _ _
    generalize hA : Act.put _ _ _ = A0
    have hAd : A0.defers = [{ target := .fn (.func 98) #[], args := #[.pointer (some q)] }] := by subst hA; rfl
    have hAs : A0.tmps.size = 96 := by subst hA; simp [Act.put, do0, do1, hsz]
    have hA0 : A0.tmps.getD 0 undef = .pointer (some q) := by
      subst hA
      rw [← ht0]
      simp [Act.put, do0, do1, Array.getElem?_setIfInBounds]
    have hend : ∀ (R : Ending → World → Prop) (w' : World) (tm : Array Value), R (.returned (.tuple #[])) w' → Leaves Tryz.prog Tryz.f65 tm R [{ target := .fn (.func 98) #[], args := #[.pointer (some q)] }] .returning w' := by
      intro R w' tm hr
      refine ⟨by simp, _, _, 98, #[.pointer (some q)], rfl, ?_, ?_⟩
      · simp only [invoke]
        exact SX.run_callFunc noNum_prog (by kernel_rfl) _ _
      · refine CallsD.mono (ends_nil q w') ?_
        rintro e u' w'' ⟨rfl, rfl, rfl⟩
        exact ⟨_, results_nil do_res _ _, hr⟩
    refine Code.wp_mono (fun x a' w' hq => ?_) (ho 96 V w _ (argsE 0 [.pointer (some q)]) do_chk hAs ?_ ?_ hR).wp
    · have key : ∀ (E' : Tr A) (s1 : St), PN 96 A0 V s w E' s1 a' w' → s1 = s' → a = .tup [] → Leaves Tryz.prog Tryz.f65 a'.tmps (fun e w' => ∃ v, e = .returned v ∧ SX.Rest w w' ∧ ∃ V', Mv V s w V' s' w' ∧ conc V' a = some v) a'.defers .returning w' := by
        rintro E' s1 ⟨g1, g2, V', e', g3, g4, g5⟩ rfl rfl
        rw [g2, hAd]
        exact hend _ w' _ ⟨_, rfl, g3.rest, V', g3, by simp [conc, concL]⟩
      cases out with
      | n E' s1 =>
        simp only [sel, Option.some.injEq, Prod.mk.injEq] at h
        cases x <;> first | exact hq.elim | exact key E' s1 hq h.2 h.1.symm
      | x id E' s1 => cases h
      | r E' s1 =>
        simp only [sel, Option.some.injEq, Prod.mk.injEq] at h
        cases x <;> first | exact hq.elim | exact key E' s1 hq h.2 h.1.symm
    · intro t v hv
      obtain ⟨_, h2⟩ := argsE_ok 0 _ t v hv
      simp only [Nat.sub_zero] at h2
      match t, h2 with
      | 0, h2 => simp at h2; subst h2; exact hA0
      | t + 1, h2 => simp at h2
    · intro t a ha
      rcases hE V _ hv t a ha with h1 | ⟨h1, _⟩ | ⟨h1, _⟩
      · exact h1
      · cases h1
      · cases h1
  · cases h

end Go.TB
