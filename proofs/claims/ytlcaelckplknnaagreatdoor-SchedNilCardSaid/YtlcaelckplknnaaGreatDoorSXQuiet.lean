/- SX: what a quiet operation's word says is what the model does. -/
import Derived.Test.YtlcaelckplknnaaGreatDoorSXEval
import Derived.Laws.Cells
import Derived.Laws.World
set_option linter.unusedVariables false
set_option linter.unusedSimpArgs false
namespace Go.SX
open Go

variable {P : Program}

theorem run_v {α : Type} {s : Sem α} {g : α → Next} {w w' : World} {v : α} (h : s.run P w = .ok v w') : (do pure (g (← s)) : Sem Next).run P w = .ok (g v) w' := by
  simp [h]
theorem run_underlying {T : TypeId} {d : TypeDesc} (h : P.underlying T = some d) (w : World) : (underlying T).run P w = .ok d w := by
  simp [underlying, h]
theorem run_typeInfo {T : TypeId} {i : TypeInfo} (h : P.info? T = some i) (w : World) : (typeInfo T).run P w = .ok i w := by
  simp [typeInfo, h]
theorem run_sizeOf {T : TypeId} {n : Nat} (h : sizeB P T = some n) (w : World) : (sizeOf T).run P w = .ok n w := by
  simp only [sizeB] at h
  cases hi : P.info? T with
  | none => simp [hi] at h
  | some i => simp [hi] at h; simp [sizeOf, run_typeInfo hi, h]
theorem run_isAgg {T : TypeId} {b : Bool} (h : isAggB P T = some b) (w : World) : (isAgg T).run P w = .ok b w := by
  unfold isAggB at h
  split at h
  · rename_i fs hu; simp at h; subst h; simp [isAgg, run_underlying hu]
  · rename_i n e hu; simp at h; subst h; simp [isAgg, run_underlying hu]
  · rename_i d h1 h2 hu
    simp at h; subst h
    simp only [isAgg, Sem.run_bind, run_underlying hu, Result.andThen_ok]
    cases d <;> first | rfl | (exact absurd hu (h1 _)) | (exact absurd hu (h2 _ _))
  · cases h

theorem run_load_some {w : World} {a : Addr} {v : Value} (h : w.cell? a = some v) : (load a).run P w = .ok v w := by
  simp [h]

/-- what can be read -/
def Rd.ok (w : World) : Rd → Prop
  | .cells a n => ∀ i, i < n → (w.cell? (a.add i)).isSome = true
  | .obj r => (w.heap[r]?).isSome = true

theorem add_add (a : Addr) (h : a.spot = none) (i j : Nat) : (a.add i).add j = a.add (i + j) := by
  obtain ⟨b, o, s⟩ := a
  simp only [] at h
  subst h
  unfold Addr.add
  by_cases hi : i = 0
  · subst hi; simp
  · by_cases hj : j = 0
    · subst hj; simp
    · simp [hi, hj, Nat.add_assoc]

theorem ldA_sound {w : World} {a : Addr} : ∀ (ss : List Srt) (i : Nat) (k : List Value → M), ldA ss a i k w →
    ∃ vs : List Value, vs.length = ss.length ∧ k vs w ∧ ∀ j v, vs[j]? = some v → w.cell? (a.add (i + j)) = some v
  | [], i, k, h => ⟨[], rfl, h, by simp⟩
  | s :: ss, i, k, h => by
    obtain ⟨d, hd, h⟩ := h
    obtain ⟨vs, hl, hk, hc⟩ := ldA_sound ss (i + 1) _ h
    refine ⟨s.val d :: vs, by simp [hl], hk, ?_⟩
    intro j v hj
    cases j with
    | zero => simp at hj; subst hj; exact hd
    | succ j => simp at hj; have := hc j v hj; rwa [show i + 1 + j = i + (j + 1) by omega] at this

/-- what a load of a type reads -/
def loadR (P : Program) (T : TypeId) (a : Addr) : List Rd :=
  match isAggB P T with
  | some true => match sizeB P T with
    | some n => [Rd.cells a n]
    | none => []
  | _ => [Rd.cells a 1]

theorem loadM_sound {T : TypeId} {a : Addr} {k : Value → M} {w : World} (h : loadM P T a k w) :
    ∃ v, k v w ∧ (∀ r ∈ loadR P T a, r.ok w) ∧ ∀ w', (∀ r ∈ loadR P T a, r.same w w') → (loadVar T a).run P w' = .ok v w' := by
  unfold loadM at h
  unfold loadR
  cases hag : isAggB P T with
  | none => simp only [hag] at h; exact h.elim
  | some b =>
    cases b with
    | true =>
      simp only [hag] at h ⊢
      cases hcs : cellSrts P 40 T with
      | none => simp only [hcs] at h; exact h.elim
      | some ss =>
        cases hsz : sizeB P T with
        | none => simp only [hcs, hsz] at h; exact h.elim
        | some n =>
          simp only [hcs, hsz] at h
          cases hlen : Nat.beq ss.length n with
          | false => simp only [hlen] at h; exact h.elim
          | true =>
            simp only [hlen] at h
            have hlen : ss.length = n := Nat.eq_of_beq_eq_true hlen
            obtain ⟨vs, hl, hk, hc⟩ := ldA_sound ss 0 _ h
            have hvn : vs.length = n := by omega
            refine ⟨_, hk, ?_, ?_⟩
            · simp only [List.mem_singleton]
              rintro r rfl i hi
              have : vs[i]? = some vs[i] := by simp [hvn, hi]
              have := hc i _ this
              simp at this
              simp [this]
            · simp only [List.mem_singleton, forall_eq]
              intro w' hs
              have hr : (loadCells a n).run P w' = .ok vs.toArray w' := by
                rw [← hvn]
                refine run_loadCells_list w' a vs fun j v hj => ?_
                have hjl : j < n := by
                  have := (List.getElem?_eq_some_iff.1 hj).1; omega
                have h1 := hs j hjl
                have h2 := hc j v hj
                simp only [Nat.zero_add] at h2
                rw [h1, h2]
              simp [loadVar, run_isAgg hag, run_sizeOf hsz, hr]
    | false =>
      simp only [hag] at h ⊢
      cases hu : P.underlying T with
      | none => simp only [hu] at h; exact h.elim
      | some d =>
        simp only [hu] at h
        obtain ⟨x, hx, hk⟩ := h
        refine ⟨_, hk, ?_, ?_⟩
        · simp only [List.mem_singleton]
          rintro r rfl i hi
          have : i = 0 := by omega
          subst this
          simp [Addr.add, hx]
        · simp only [List.mem_singleton, forall_eq]
          intro w' hs
          have h1 := hs 0 (by omega)
          simp only [Addr.add, if_true] at h1
          have h2 : w'.cell? a = some ((srtOf d).val x) := by rw [h1, hx]
          simp [loadVar, run_isAgg hag, h2]

theorem evs_sound {ev : Operand → Option Value} {ρ : Operand → Value} (hev : ∀ x v, ev x = some v → ρ x = v) : ∀ (l : List Operand) (vs : List Value), evs ev l = some vs → l.map ρ = vs
  | [], vs, h => by simp [evs] at h; simp [h]
  | x :: l, vs, h => by
    unfold evs at h
    split at h
    · rename_i v vs' h1 h2
      simp at h
      subst h
      simp [hev _ _ h1, evs_sound hev l _ h2]
    · cases h
theorem evps_sound {ev : Operand → Option Value} {ρ : Operand → Value} (hev : ∀ x v, ev x = some v → ρ x = v) : ∀ (l : List (Nat × Operand)) (vs : List (Nat × Value)), evps ev l = some vs → l.map (fun (i, x) => (i, ρ x)) = vs
  | [], vs, h => by simp [evps] at h; simp [h]
  | (i, x) :: l, vs, h => by
    unfold evps at h
    split at h
    · rename_i v vs' h1 h2
      simp at h
      subst h
      simp [hev _ _ h1, evps_sound hev l _ h2]
    · cases h

theorem w1_sound {o : Option Value} {k : Value → M} {w : World} (h : w1 o k w) : ∃ v, o = some v ∧ k v w := by
  cases o with
  | none => exact h.elim
  | some v => exact ⟨v, rfl, h⟩
theorem ws_sound {o : Option (List Value)} {k : List Value → M} {w : World} (h : ws o k w) : ∃ v, o = some v ∧ k v w := by
  cases o with
  | none => exact h.elim
  | some v => exact ⟨v, rfl, h⟩
theorem wi_sound {o : Option Value} {k : Int → M} {w : World} (h : wi o k w) : ∃ kd n, o = some (.int kd n) ∧ k n w := by
  unfold wi at h
  split at h
  · exact ⟨_, _, rfl, h⟩
  · exact h.elim

theorem beqK_eq {k k' : IntKind} (h : beqK k k' = true) : k = k' := by
  cases k <;> cases k' <;> first | rfl | (simp [beqK] at h)

theorem intM_sound {op : BinOp} {kd : IntKind} {x y : Int} {T : TypeId} {k : Value → M} {w : World} (h : intM op kd x y k w) :
    ∃ v, k v w ∧ ∀ w', (binOp op T (.int kd x) (.int kd y)).run P w' = .ok v w' := by
  cases op <;> simp only [intM] at h
  case quo | rem => obtain ⟨h0, h⟩ := h; exact ⟨_, h, fun w' => by simp [binOp, Op.intDiv, h0]⟩
  case shl | shr => obtain ⟨h0, h⟩ := h; have h1 : ¬ y < 0 := by omega
                    exact ⟨_, h, fun w' => by simp [binOp, Op.shift, h1, bShl, bShr]⟩
  all_goals exact ⟨_, h, fun w' => by simp [binOp, Op.intArith, Op.intBits, Op.intCmp, bAnd, bOr, bXor, bAndNot, eqI, neI, ltI, leI]⟩

/-- a shift's second operand may be of another kind -/
theorem shiftM_sound {op : BinOp} (hop : op = .shl ∨ op = .shr) {kd k' : IntKind} {x y : Int} {T : TypeId} {k : Value → M} {w : World} (h : intM op kd x y k w) :
    ∃ v, k v w ∧ ∀ w', (binOp op T (.int kd x) (.int k' y)).run P w' = .ok v w' := by
  rcases hop with rfl | rfl <;> simp only [intM] at h <;> obtain ⟨h0, h⟩ := h <;> have h1 : ¬ y < 0 := by omega
  · exact ⟨_, h, fun w' => by simp [binOp, Op.shift, h1, bShl]⟩
  · exact ⟨_, h, fun w' => by simp [binOp, Op.shift, h1, bShr]⟩

end Go.SX
