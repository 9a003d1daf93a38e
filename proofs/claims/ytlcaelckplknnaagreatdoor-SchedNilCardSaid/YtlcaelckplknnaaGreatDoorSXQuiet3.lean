/- SX: what a quiet operation's word says is what the model does: the theorem. -/
import Derived.Test.YtlcaelckplknnaaGreatDoorSXQuiet2
import Derived.Laws.Small
set_option linter.unusedVariables false
set_option linter.unusedSimpArgs false
namespace Go.SX
open Go

variable {P : Program}

/-- it yields v, in whatever world in which what it reads stands as in w -/
def Ylds (P : Program) (o : Oper) (ρ : Operand → Value) (rs : List Rd) (w : World) (v : Value) : Prop :=
  (∀ r ∈ rs, r.ok w) ∧ ∀ w', (∀ r ∈ rs, r.same w w') → (execOp ρ o).run P w' = .ok (.value v) w'

theorem Ylds.pure {o : Oper} {ρ : Operand → Value} {w : World} {v : Value} (h : ∀ w', (execOp ρ o).run P w' = .ok (.value v) w') : Ylds P o ρ [] w v :=
  ⟨by simp, fun w' _ => h w'⟩

theorem evs_arr {ev : Operand → Option Value} {ρ : Operand → Value} (hev : ∀ x v, ev x = some v → ρ x = v) {l : Array Operand} {vs : List Value} (h : evs ev l.toList = some vs) : l.map ρ = vs.toArray := by
  have := evs_sound hev _ _ h
  rw [← this, ← Array.toList_map]
theorem evps_arr {ev : Operand → Option Value} {ρ : Operand → Value} (hev : ∀ x v, ev x = some v → ρ x = v) {l : Array (Nat × Operand)} {vs : List (Nat × Value)} (h : evps ev l.toList = some vs) : (l.map fun (i, x) => (i, ρ x)) = vs.toArray := by
  have := evps_sound hev _ _ h
  rw [← this, ← Array.toList_map]

theorem partL_sound {T : TypeId} {cs : Array Value} {off : Nat} {v : Value} (h : partL P T cs.toList off = some v) (w : World) : (part T cs off).run P w = .ok v w := by
  unfold partL at h
  rcases hag : isAggB P T with _ | b
  · simp [hag] at h
  · cases b with
    | true =>
      rcases hsz : sizeB P T with _ | n
      · simp [hag, hsz] at h
      · simp only [hag, hsz, Option.some.injEq] at h
        subst h
        simp only [part, Sem.run_bind, run_isAgg hag, Result.andThen_ok, if_true, run_sizeOf hsz, Sem.run_pure]
        congr 2
        apply Array.ext'
        simp [List.take_drop, Nat.add_comm]
    | false =>
      simp only [hag] at h
      have h : cs[off]? = some v := by simpa using h
      simp [part, run_isAgg hag, h]

theorem zeroL_sound {T : TypeId} {z : List Value} (h : zeroL P T = some z) : ∃ i v, P.info? T = some i ∧ i.zero = some v ∧ v.cells.toList = z := by
  unfold zeroL at h
  rcases hi : P.info? T with _ | i
  · simp [hi] at h
  · rcases hz : i.zero with _ | v
    · simp [hi, hz] at h
    · simp [hi, hz] at h
      exact ⟨i, v, rfl, hz, by simpa using h⟩

theorem run_zeroValue {T : TypeId} {i : TypeInfo} {v : Value} (hi : P.info? T = some i) (hz : i.zero = some v) (w : World) : (zeroValue T).run P w = .ok v w := by
  simp [zeroValue, run_typeInfo hi, hz]

theorem run_mapM_places {w : World} : ∀ (fs : List Field) (l : List (Nat × Nat)), (∀ i : Nat, ∀ f, fs[i]? = some f → ∃ inf, P.info? f.type = some inf ∧ l[i]? = some (f.offset, inf.size)) → l.length = fs.length →
    (fs.mapM (m := Sem) fun f => do pure (f.offset, ← sizeOf f.type)).run P w = .ok l w
  | [], l, _, hl => by
    have : l = [] := List.length_eq_zero_iff.1 hl
    subst this; simp
  | f :: fs, l, h, hl => by
    cases l with
    | nil => simp at hl
    | cons x l =>
      obtain ⟨inf, hi, hx⟩ := h 0 f rfl
      simp at hx
      have ih := run_mapM_places (w := w) fs l (fun i f hf => by obtain ⟨inf, a, b⟩ := h (i + 1) f (by simpa using hf); exact ⟨inf, a, by simpa using b⟩) (by simpa using hl)
      have hs : sizeB P f.type = some inf.size := by simp [sizeB, hi]
      simp only [List.mapM_cons, Sem.run_bind, run_sizeOf hs, Result.andThen_ok, Sem.run_pure, ih, hx]

theorem allInfo_spec : ∀ {fs : List Field}, allInfo P fs = true → ∀ f ∈ fs, ∃ inf, P.info? f.type = some inf
  | [], _, f, hf => by cases hf
  | g :: fs, h, f, hf => by
    unfold allInfo at h
    rcases hi : P.info? g.type with _ | i
    · simp [hi] at h
    · simp only [hi] at h
      cases hf with
      | head => exact ⟨i, hi⟩
      | tail _ hf => exact allInfo_spec h f hf

theorem buildM_sound {T : TypeId} {ps : List (Nat × Value)} {k : Value → M} {w : World} (h : buildM P T ps k w) :
    ∃ v, k v w ∧ ∀ w', (Instr.build T ps.toArray).run P w' = .ok v w' := by
  unfold buildM at h
  rcases hu : P.underlying T with _ | d
  · simp only [hu] at h; exact h.elim
  · rcases hz : zeroL P T with _ | z
    · simp only [hu, hz] at h; cases d <;> exact h.elim
    · obtain ⟨inf, zv, hi, hzv, hzc⟩ := zeroL_sound hz
      simp only [hu, hz] at h
      cases d
      case struct fs =>
        rcases hf : fillL (structPlace P fs) z ps with _ | cs
        · rcases hA : allInfo P fs.toList with _ | _ <;> (simp only [hf, hA] at h; exact h.elim)
        · rcases hA : allInfo P fs.toList with _ | _
          · simp only [hf, hA] at h; exact h.elim
          · simp only [hf, hA] at h
            refine ⟨_, h, fun w' => ?_⟩
            have hall := allInfo_spec hA
            have hpl : ∃ l : List (Nat × Nat), l.length = fs.toList.length ∧ ∀ i : Nat, ∀ f, fs.toList[i]? = some f → ∃ inf, P.info? f.type = some inf ∧ l[i]? = some (f.offset, inf.size) := by
              refine ⟨fs.toList.map fun f => (f.offset, ((P.info? f.type).map (·.size)).getD 0), by simp, ?_⟩
              intro i f hf
              obtain ⟨inf, hin⟩ := hall f (List.mem_of_getElem? hf)
              exact ⟨inf, hin, by simp only [List.getElem?_map, hf, Option.map_some, hin, Option.getD_some]⟩
            obtain ⟨l, hl, hget⟩ := hpl
            have hm := run_mapM_places (P := P) (w := w') fs.toList l hget hl
            have hm' : (fs.mapM (m := Sem) fun f => do pure (f.offset, ← sizeOf f.type)).run P w' = .ok l.toArray w' := by
              rw [Array.mapM_eq_mapM_toList, Sem.run_map, hm]
              rfl
            have hfl := fillL_sound (place := structPlace P fs) (place' := (l.toArray[·]?)) (fun i x hx => by
              unfold structPlace at hx
              rcases hfi : fs.toList[i]? with _ | f
              · simp only [hfi] at hx; cases hx
              · simp only [hfi] at hx
                obtain ⟨inf', h1, h2⟩ := hget i f hfi
                simp only [h1, Option.some.injEq] at hx
                subst hx
                simpa using h2) ps zv.cells cs (by rw [hzc]; exact hf)
            simp only [Instr.build, Sem.run_bind, run_zeroValue hi hzv, Result.andThen_ok, run_underlying hu, hm', hfl, Sem.run_pure]
      case array n e =>
        rcases hs : sizeB P e with _ | size
        · simp only [hs] at h; exact h.elim
        · rcases hf : fillL (fun i => some (i * size, size)) z ps with _ | cs
          · simp only [hs, hf] at h; exact h.elim
          · simp only [hs, hf] at h
            refine ⟨_, h, fun w' => ?_⟩
            have hfl := fillL_sound (place' := fun i => some (i * size, size)) (fun i x hx => hx) ps zv.cells cs (by rw [hzc]; exact hf)
            simp only [Instr.build, Sem.run_bind, run_zeroValue hi hzv, Result.andThen_ok, run_underlying hu, run_sizeOf hs, hfl, Sem.run_pure]
      all_goals exact h.elim

end Go.SX
