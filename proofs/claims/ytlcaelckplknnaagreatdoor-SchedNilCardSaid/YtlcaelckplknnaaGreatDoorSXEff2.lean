/- SX: what an operation's word says that does something, is what the model does: the theorem. -/
import Derived.Test.YtlcaelckplknnaaGreatDoorSXEff
set_option linter.unusedVariables false
set_option linter.unusedSimpArgs false
namespace Go.SX
open Go

variable {P : Program}

theorem wp_value {o : Oper} {a : Act} {w w' : World} {v : Value} {next : Act → World → Prop} {Q : Exit → Act → World → Prop}
    (h : (execOp a.eval o).run P w = .ok (.value v) w') (hn : next (a.put o.dst v) w') : o.wp P a w next Q := by
  unfold Oper.wp; rw [h]; exact hn
theorem wp_skipv {o : Oper} {a : Act} {w w' : World} {next : Act → World → Prop} {Q : Exit → Act → World → Prop}
    (h : (execOp a.eval o).run P w = .ok .skip w') (hn : next (a.put o.dst undefV) w') : o.wp P a w next Q := by
  unfold Oper.wp; rw [h]; exact hn
theorem run_u {s : Sem Unit} {w w' : World} (h : s.run P w = .ok () w') : (do s; pure Next.skip : Sem Next).run P w = .ok .skip w' := by
  simp [h]
theorem run_getObj {w : World} {b : Nat} {o : Obj} (hb : w.heap[b]? = some o) (ho : ∀ c T fz, o ≠ .cells c T fz) : (getObj b).run P w = .ok o w := by
  cases o with
  | cells c T fz => exact absurd rfl (ho c T fz)
  | _ => simp [getObj, Sem.run, hb]
theorem run_setObj {w : World} {b : Nat} {o o' : Obj} (hb : w.heap[b]? = some o) (ho : ∀ c T fz, o ≠ .cells c T fz) : (setObj b o').run P w = .ok () (World.setO w b o') := by
  cases o with
  | cells c T fz => exact absurd rfl (ho c T fz)
  | _ => simp [setObj, Sem.run, hb, World.setO]

theorem apd_sound {e : TypeId} {i : TypeInfo} {zv : Value} (hi : P.info? e = some i) (hz : i.zero = some zv) (hzs : zv.cells.size = i.size) {t t' : TypeId} {e' : TypeId}
    (ht : P.underlying t = some (.slice e)) (ht' : P.underlying t' = some (.slice e')) {sa xa : Option Addr} {sl sc xl xc : Nat} {k : Sl → M} {w : World} {ty : TypeId}
    (h : apd e i.size i.bytes zv.cells.toList ⟨sa, sl, sc⟩ ⟨xa, xl, xc⟩ k w) :
    ∃ r w', (Builtin.append_ #[t, t'] ty #[.slice sa sl sc, .slice xa xl xc]).run P w = .ok (.slice r.a r.len r.cap) w' ∧ Rest w w' ∧ k r w' := by
  have hs : sizeB P e = some i.size := by simp [sizeB, hi]
  unfold apd at h
  by_cases hc : sl + xl ≤ sc
  · simp only [hc, if_true] at h
    obtain ⟨news, h1, h2⟩ := rdS_sound (P := P) (l := xl) (c := xc) h
    have h1 := h1 w rfl
    cases sa with
    | none =>
      simp only [] at h2
      refine ⟨_, w, ?_, Rest.refl w, h2.2⟩
      simp [Builtin.append_, run_underlying ht, run_underlying ht', run_sizeOf hs, Builtin.lenOf, hc, h1]
    | some a =>
      simp only [] at h2
      obtain ⟨h3, h4, h5⟩ := stN_sound (P := P) h2
      refine ⟨_, _, ?_, h4, h5⟩
      simp [Builtin.append_, run_underlying ht, run_underlying ht', run_sizeOf hs, Builtin.lenOf, hc, h1, h3]
  · simp only [hc, if_false] at h
    obtain ⟨olds, h1, h2⟩ := rdS_sound (P := P) (l := sl) (c := sc) h
    obtain ⟨news, h3, h4⟩ := rdS_sound (P := P) (l := xl) (c := xc) h2
    obtain ⟨⟨hb1, hb2, hb3⟩, h5⟩ := h4
    have hcap := nextslicecap_le (sl + xl) sc (by omega)
    have hle : Builtin.nextslicecap (sl + xl) sc * i.bytes ≤ 2 * (sl + xl) * i.bytes := Nat.mul_le_mul_right _ hcap
    have hb1' : 2 * (sl + xl) * i.bytes ≤ 2 ^ 47 := by
      have : 2 * (sl + xl) * i.bytes = (sl + xl) * i.bytes * 2 := by rw [Nat.mul_comm 2, Nat.mul_right_comm]
      rw [this]; exact hb1
    have hno : ¬ Builtin.nextslicecap (sl + xl) sc * i.bytes > 2 ^ 48 := by omega
    have hneed : ¬ ((((sl + xl : Nat) : Int) > IntKind.i64.max) ∧ (False ∨ i.bytes = 0)) := by
      rintro ⟨_, h | h⟩
      · exact h
      · omega
    let cc := (Question.appendCap (sl + xl) sc e).cut (w.tape w.drawn (.appendCap (sl + xl) sc e))
    have hcc : sl + xl ≤ cc ∧ cc < 2 ^ 63 := by
      show sl + xl ≤ (sl + xl) + _ % (2 ^ 63 - (sl + xl)) ∧ (sl + xl) + _ % (2 ^ 63 - (sl + xl)) < 2 ^ 63
      have : w.tape w.drawn (.appendCap (sl + xl) sc e) % (2 ^ 63 - (sl + xl)) < 2 ^ 63 - (sl + xl) := Nat.mod_lt _ (by omega)
      omega
    refine ⟨_, _, ?_, ?_, h5 cc hcc.1 hcc.2⟩
    · have e1 := h1 w.drew rfl
      have e2 := h3 w.drew rfl
      have ez : Builtin.zeroCells zv.cells (cc - (sl + xl)) = (repV (cc - (sl + xl)) zv.cells.toList).toArray := rep_arr zv.cells _
      have hch : (choose (.appendCap (sl + xl) sc e)).run P w = .ok cc w.drew := rfl
      simp only [Builtin.append_, List.size_toArray, List.length_cons, List.length_nil, Sem.run_bind, run_underlying ht, run_underlying ht', run_sizeOf hs, Result.andThen_ok, Builtin.lenOf, Sem.run_pure, List.getElem?_toArray, List.getElem?_cons_zero, List.getElem?_cons_succ, hc, if_false, run_typeInfo hi,
        Bool.false_eq_true, hneed, hno, hch, run_askRoom, e1, e2, run_zeroValue hi hz, ez, Bool.not_false, if_true, newRow, run_newObj, List.append_toArray]
      rfl
    · exact Rest.trans (b := w.drew) (Rest.of_heap rfl rfl rfl rfl) (Rest.alloc w.drew _)

theorem cpy_sound {e : TypeId} {i : TypeInfo} (hi : P.info? e = some i) {t t' : TypeId}
    (ht : P.underlying t = some (.slice e)) {sa xa : Option Addr} {sl sc xl xc : Nat} {k : Nat → M} {w : World} {ty : TypeId}
    (h : cpy i.size ⟨sa, sl, sc⟩ ⟨xa, xl, xc⟩ k w) :
    ∃ n w', (Builtin.copy_ #[t, t'] ty #[.slice sa sl sc, .slice xa xl xc]).run P w = .ok (.int .i64 (n : Nat)) w' ∧ Rest w w' ∧ k n w' := by
  have hs : sizeB P e = some i.size := by simp [sizeB, hi]
  unfold cpy at h
  obtain ⟨cs, h1, h2⟩ := rdS_sound (P := P) (l := xl) (c := xc) h
  have h1 := h1 w rfl
  cases sa with
  | none =>
    refine ⟨_, w, ?_, Rest.refl w, h2⟩
    simp [Builtin.copy_, run_underlying ht, run_sizeOf hs, Builtin.lenOf, h1, goInt]
  | some a =>
    obtain ⟨h3, h4, h5⟩ := stN_sound (P := P) h2
    refine ⟨_, _, ?_, h4, h5⟩
    simp [Builtin.copy_, run_underlying ht, run_sizeOf hs, Builtin.lenOf, h1, h3, goInt]


theorem asTy_sound {ty : TypeId} {v : Value} {k : Value → M} {w : World} (h : asTy P ty v k w) : k v w := by
  unfold asTy at h
  have g : asT P ty (fun u => rq (v = u) (k u)) w → k v w := by
    intro h
    obtain ⟨u, h1, h2⟩ := asT_sound h
    rw [h1]; exact h2
  rcases hu : P.underlying ty with _ | d
  · rw [hu] at h; exact g h
  · rw [hu] at h
    cases d
    case tuple ts =>
      obtain ⟨us, h1, h2⟩ := asTs_sound _ _ h
      rw [h1]; exact h2
    all_goals exact g h

theorem cl_wp {o : Oper} {a : Act} {g : FuncId} {args : List Value} {w : World} {next : Act → World → Prop} {Q : Exit → Act → World → Prop} {k : Value → M}
    (h : (execOp a.eval o).run P w = .ok (.enter g args.toArray) w) (hc : cl P g args k w) (hn : ∀ v w', Rest w w' → k v w' → next (a.put o.dst v) w') : o.wp P a w next Q := by
  unfold Oper.wp; rw [h]
  refine Calls.mono hc fun e w' he => ?_
  obtain ⟨v, rfl, hr, hk⟩ := he
  exact hn v w' hr hk

/-- no function of the program is the one that the model answers by itself -/
def noNum (P : Program) : Prop := P.funcs.all (fun fn => !(fn.name == "runtime.NumGoroutine")) = true

theorem run_callFunc (hN : noNum P) {g : FuncId} (hg : bodyB P g = true) (args : Array Value) (w : World) : (callFunc g args).run P w = .ok (.enter g args) w := by
  unfold bodyB at hg
  rcases hf : P.funcs[g]? with _ | fn
  · rw [hf] at hg; cases hg
  · rw [hf] at hg
    have hb' : fn.body.isNone = false := by
      cases hfb : fn.body with
      | none => simp [hfb] at hg
      | some c => rfl
    have hn : (fn.name == "runtime.NumGoroutine") = false := by
      have := (Array.all_eq_true_iff_forall_mem.1 hN) fn (Array.mem_of_getElem? hf)
      simpa using this
    simp only [callFunc, Sem.run_bind, run_program, Result.andThen_ok, hf, hn, Bool.false_eq_true, if_false, hb', Sem.run_pure]

end Go.SX
