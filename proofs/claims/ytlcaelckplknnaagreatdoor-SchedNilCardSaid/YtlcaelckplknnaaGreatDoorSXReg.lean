/- SX: regions. -/
import Derived.Test.YtlcaelckplknnaaGreatDoorSXEff3
import Derived.Tactics
set_option linter.unusedVariables false
set_option linter.unusedSimpArgs false
namespace Go.SX
open Go

variable {P : Program}

def EOk (e : Env) (a : Act) : Prop := ∀ t v, lk e t = some v → a.tmps.getD t undef = v

theorem evo_ok {e : Env} {a : Act} (h : EOk e a) (x : Operand) (v : Value) (hx : evo e x = some v) : a.eval x = v := by
  cases x with
  | tmp t => exact h t v hx
  | const u => simp only [evo, Option.some.injEq] at hx; exact hx
  | global g => simp only [evo, Option.some.injEq] at hx; exact hx
  | func f => simp only [evo, Option.some.injEq] at hx; exact hx

theorem lk_cons {d : Nat} {v : Value} {e : Env} {t : Nat} : lk ((d, v) :: e) t = if d = t then some v else lk e t := by
  simp only [lk]
  by_cases h : d = t
  · subst h; simp
  · have : Nat.beq d t = false := by
      cases hb : Nat.beq d t
      · rfl
      · exact absurd (Nat.eq_of_beq_eq_true hb) h
    simp [this, h]
theorem memN_iff : ∀ (l : List Nat) (t : Nat), memN l t = true ↔ t ∈ l
  | [], t => by simp [memN]
  | x :: l, t => by
    simp only [memN]
    by_cases h : x = t
    · subst h; simp
    · have : Nat.beq x t = false := by
        cases hb : Nat.beq x t
        · rfl
        · exact absurd (Nat.eq_of_beq_eq_true hb) h
      simp [this, memN_iff l t, Ne.symm h]
theorem lk_rm {l : List Nat} : ∀ (e : Env) (t : Nat) (v : Value), lk (rm l e) t = some v → lk e t = some v ∧ t ∉ l
  | [], t, v, h => by simp [rm, lk] at h
  | (d, u) :: e, t, v, h => by
    simp only [rm] at h
    cases hm : memN l d with
    | true =>
      simp only [hm] at h
      obtain ⟨h1, h2⟩ := lk_rm e t v h
      refine ⟨?_, h2⟩
      rw [lk_cons]
      have : d ≠ t := fun hdt => h2 (hdt ▸ (memN_iff l d).1 hm)
      simp [this, h1]
    | false =>
      simp only [hm] at h
      rw [lk_cons] at h ⊢
      by_cases hd : d = t
      · subst hd
        simp only [if_true] at h ⊢
        exact ⟨h, fun hx => by rw [(memN_iff l d).2 hx] at hm; cases hm⟩
      · simp only [hd, if_false] at h ⊢
        exact lk_rm e t v h

theorem getD_put {a : Act} {d : Option Tmp} {v : Value} {t : Nat} (hd : ∀ x, d = some x → x < a.tmps.size) : (a.put d v).tmps.getD t undef = if d = some t then v else a.tmps.getD t undef := by
  cases d with
  | none => simp [Act.put]
  | some x =>
    have := hd x rfl
    by_cases h : x = t
    · subst h; simp [Act.put, this]
    · simp [Act.put, Array.getElem?_setIfInBounds_ne h, h]
theorem put_size {a : Act} {d : Option Tmp} {v : Value} : (a.put d v).tmps.size = a.tmps.size := by
  cases d <;> simp [Act.put]
theorem put_defers' {a : Act} {d : Option Tmp} {v : Value} : (a.put d v).defers = a.defers := by
  cases d <;> simp [Act.put]

theorem EOk.put {e : Env} {a : Act} (h : EOk e a) {d : Option Nat} {v : Value} (hd : ∀ x, d = some x → x < a.tmps.size) : EOk (put d v e) (a.put d v) := by
  intro t u hu
  rw [getD_put hd]
  cases d with
  | none => simp only [SX.put] at hu; simp [h t u hu]
  | some x =>
    simp only [SX.put, lk_cons] at hu
    by_cases hx : x = t
    · subst hx; simp at hu; simp [hu]
    · simp only [hx, if_false] at hu
      have : (some x = some t) = False := by simp [hx]
      simp only [this, if_false]; exact h t u hu
theorem EOk.drop1 {e : Env} {a : Act} (h : EOk e a) {d : Option Nat} (hd : ∀ x, d = some x → x < a.tmps.size) : EOk (drop1 d e) (a.put d undef) := by
  cases d with
  | none => exact h.put (v := undef) hd
  | some x => exact h.put (v := undef) hd

theorem gd_sound {ops : Array Oper} {o : Oper} {e : Env} {a : Act} {run skip : Env → M} {w : World} (he : EOk e a) (h : gd ops.toList o e run skip w) :
    (Region.wanted o (yielded ops a.tmps) = true ∧ ∃ e1, EOk e1 a ∧ run e1 w) ∨ (Region.wanted o (yielded ops a.tmps) = false ∧ ∃ e1, EOk e1 a ∧ skip e1 w) := by
  unfold gd at h
  unfold Region.wanted
  rcases hg : o.guard with _ | ⟨j, want⟩
  · rw [hg] at h; exact .inl ⟨rfl, e, he, h⟩
  · rw [hg] at h
    simp only [] at h ⊢
    rcases hj : ops.toList[j]? with _ | oj
    · rw [hj] at h; exact h.elim
    · rw [hj] at h
      simp only [] at h
      rcases hd : oj.dst with _ | t
      · rw [hd] at h; exact h.elim
      · rw [hd] at h
        simp only [] at h
        rcases hl : lk e t with _ | v
        · rw [hl] at h; exact h.elim
        · rw [hl] at h
          cases v
          case bool b =>
            have hv := he t _ hl
            have hy : yielded ops a.tmps j = some b := by
              have hj' : ops[j]? = some oj := by simpa using hj
              unfold yielded
              simp only [hj', Option.bind_some, hd]
              rcases ht : a.tmps[t]? with _ | u
              · rw [Array.getD_eq_getD_getElem?, ht] at hv; simp [undef] at hv
              · rw [Array.getD_eq_getD_getElem?, ht] at hv; simp at hv; subst hv; rfl
            have he' : ∀ c : Bool, c = b → EOk ((t, .bool c) :: e) a := by
              intro c hc t' u hu
              rw [lk_cons] at hu
              by_cases htt : t = t'
              · subst htt; simp at hu; rw [← hu, hc]; exact hv
              · simp only [htt, if_false] at hu; exact he t' u hu
            rw [hy]
            cases b <;> cases want <;> simp only [br] at h
            · exact .inl ⟨rfl, _, he' false rfl, h⟩
            · exact .inr ⟨rfl, _, he' false rfl, h⟩
            · exact .inr ⟨rfl, _, he' true rfl, h⟩
            · exact .inl ⟨rfl, _, he' true rfl, h⟩
          case tuple vs =>
            have hv := he t _ hl
            have hy : yielded ops a.tmps j = none := by
              have hj' : ops[j]? = some oj := by simpa using hj
              unfold yielded
              simp only [hj', Option.bind_some, hd]
              rcases ht : a.tmps[t]? with _ | u
              · rfl
              · rw [Array.getD_eq_getD_getElem?, ht] at hv; simp at hv; subst hv; rfl
            rw [hy]
            exact .inr ⟨rfl, e, he, h⟩
          all_goals exact h.elim

/-- what a piece of code leaves -/
def NQ (n : Nat) (a0 : Act) (ms : List Nat) (w0 : World) (k : Env → M) (a' : Act) (w' : World) : Prop :=
  a'.tmps.size = n ∧ a'.defers = a0.defers ∧ (∀ t, t ∉ ms → a'.tmps.getD t undef = a0.tmps.getD t undef) ∧ Rest w0 w' ∧ ∃ e', EOk e' a' ∧ k e' w'

theorem dstB_mem {n : Nat} : ∀ {l : List Oper}, dstB n l = true → ∀ o ∈ l, ∀ x, o.dst = some x → x < n
  | [], _, o, ho => by cases ho
  | o' :: l, h, o, ho => by
    simp only [dstB, Bool.and_eq_true] at h
    intro x hx
    cases ho with
    | head => have h1 := h.1; rw [hx] at h1; exact Nat.le_of_ble_eq_true h1
    | tail _ ho => exact dstB_mem h.2 o ho x hx
theorem dsts_mem {l : List Oper} {o : Oper} (ho : o ∈ l) (x : Nat) (hx : o.dst = some x) : x ∈ dsts l := by
  induction l with
  | nil => cases ho
  | cons o' l ih =>
    cases ho with
    | head => simp [dsts, hx]
    | tail _ ho =>
      have := ih ho
      cases hd : o'.dst with
      | none => simp only [dsts, hd]; exact this
      | some y => simp only [dsts, hd]; exact List.mem_cons_of_mem _ this

theorem opM_wp (hN : noNum P) {o : Oper} {a : Act} {e : Env} (he : EOk e a) {k : Value → M} {w : World} {next : Act → World → Prop} {Q : Exit → Act → World → Prop}
    (h : opM P o e [] k w) (hn : ∀ v w', Rest w w' → k v w' → next (a.put o.dst v) w') : o.wp P a w next Q := by
  unfold opM at h
  cases hq : quietB P o.op with
  | true =>
    rw [hq] at h
    obtain ⟨v, hk, hy⟩ := opQ_sound hq (evo_ok he) h
    exact wp_value (hy.2 w fun r _ => Rd.same.refl w r) (hn v w (Rest.refl w) hk)
  | false =>
    rw [hq] at h
    exact opE_sound hN (evo_ok he) (by simp) h (fun v w' hr _ hk => hn v w' hr hk)

theorem regS_sound (hN : noNum P) {ops : Array Oper} {n : Nat} {a0 : Act} {w0 : World} {ms : List Nat} {k : Env → M} {Q : Exit → Act → World → Prop} (hQ : ∀ a' w', NQ n a0 ms w0 k a' w' → Q .normal a' w') :
    ∀ (l : List Oper) (a : Act) (e : Env) (w : World), dstB n l = true → (∀ x ∈ dsts l, x ∈ ms) → a.tmps.size = n → a.defers = a0.defers → (∀ t, t ∉ ms → a.tmps.getD t undef = a0.tmps.getD t undef) → Rest w0 w → EOk e a →
      regS P ops.toList l e k w → wpList P ops Q l a w
  | [], a, e, w, _, _, hs, hd, ht, hr, he, h => hQ a w ⟨hs, hd, ht, hr, e, he, h⟩
  | o :: l, a, e, w, hB, hms, hs, hd, ht, hr, he, h => by
    have hdst : ∀ x, o.dst = some x → x < a.tmps.size := fun x hx => by rw [hs]; exact dstB_mem hB o List.mem_cons_self x hx
    have hB' : dstB n l = true := by simp only [dstB, Bool.and_eq_true] at hB; exact hB.2
    have hms' : ∀ x ∈ dsts l, x ∈ ms := fun x hx => hms x (by cases hd : o.dst with | none => simp only [dsts, hd]; exact hx | some y => simp only [dsts, hd]; exact List.mem_cons_of_mem _ hx)
    have hput : ∀ v, (∀ t, t ∉ ms → (a.put o.dst v).tmps.getD t undef = a0.tmps.getD t undef) := fun v t htm => by
      rw [getD_put hdst]
      have : o.dst ≠ some t := fun hx => htm (hms t (dsts_mem List.mem_cons_self t hx))
      simp only [this, if_false]; exact ht t htm
    unfold wpList
    rcases gd_sound he h with ⟨hw, e1, he1, h1⟩ | ⟨hw, e1, he1, h1⟩
    · rw [if_pos hw]
      refine .inl (opM_wp hN he1 h1 fun v w' hr' hk => ?_)
      exact regS_sound hN hQ l _ _ w' hB' hms' (by rw [put_size]; exact hs) (by rw [put_defers']; exact hd) (hput v) (hr.trans hr') (he1.put hdst) hk
    · rw [if_neg (by rw [hw]; simp)]
      exact regS_sound hN hQ l _ _ w hB' hms' (by rw [put_size]; exact hs) (by rw [put_defers']; exact hd) (hput _) hr (he1.drop1 hdst) h1

end Go.SX
