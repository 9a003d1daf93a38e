/- SX: what a quiet operation's word says is what the model does: the operations. -/
import Derived.Test.YtlcaelckplknnaaGreatDoorSXQuiet
import Derived.Laws.StructEq
set_option linter.unusedVariables false
set_option linter.unusedSimpArgs false
namespace Go.SX
open Go

variable {P : Program}

theorem eqFs_sound {xsA ysA : Array Value} {d : Nat} (w : World) : ∀ (fs : List Field) (i : Nat) (xs ys : List Value) (b : Bool), eqFs P fs i xs ys = some b →
    (∀ j v, xs[j]? = some v → xsA[i + j]? = some v) → (∀ j v, ys[j]? = some v → ysA[i + j]? = some v) → (Op.eqFields (d + 1) xsA ysA fs).run P w = .ok b w
  | [], i, xs, ys, b, h, hx, hy => by
    cases xs <;> cases ys <;> simp [eqFs] at h
    subst h; simp [Op.eqFields]
  | f :: fs, i, xs, ys, b, h, hx, hy => by
    cases xs with
    | nil => simp [eqFs] at h
    | cons x xs =>
      cases ys with
      | nil => simp [eqFs] at h
      | cons y ys =>
        unfold eqFs at h
        have hx0 := hx 0 x rfl
        have hy0 := hy 0 y rfl
        simp only [Nat.add_zero] at hx0 hy0
        have hx1 : ∀ j v, xs[j]? = some v → xsA[i + 1 + j]? = some v := fun j v hj => by have := hx (j + 1) v (by simpa using hj); rwa [show i + (j + 1) = i + 1 + j by omega] at this
        have hy1 : ∀ j v, ys[j]? = some v → ysA[i + 1 + j]? = some v := fun j v hj => by have := hy (j + 1) v (by simpa using hj); rwa [show i + (j + 1) = i + 1 + j by omega] at this
        split at h
        · rename_i kk hoff hname hu
          have hoff : f.offset = i := Nat.eq_of_beq_eq_true hoff
          have hname : f.name ≠ "_" := by simpa using hname
          split at h
          · rename_i k a k' b'
            split at h
            · rename_i r hk hr
              have hk := beqK_eq hk
              subst hk
              simp at h; subst h
              have ih := eqFs_sound (xsA := xsA) (ysA := ysA) (d := d) w fs (i + 1) xs ys r hr hx1 hy1
              have hag : isAggB P f.type = some false := by simp [isAggB, hu]
              simp only [Op.eqFields, hname, ne_eq, not_false_eq_true, if_true, Sem.run_bind, part, run_isAgg hag, Result.andThen_ok, hoff, hx0, hy0, Sem.run_pure, if_false, Bool.false_eq_true, run_equalIn_int w d f.type k _ _ _ hu, Sem.run_ite, ih]
              unfold andB eqI
              cases hab : a == b' <;> simp
            · cases h
          · cases h
        · rename_i hoff hname hu
          have hoff : f.offset = i := Nat.eq_of_beq_eq_true hoff
          have hname : f.name ≠ "_" := by simpa using hname
          split at h
          · rename_i a b'
            split at h
            · rename_i r hr
              simp at h; subst h
              have ih := eqFs_sound (xsA := xsA) (ysA := ysA) (d := d) w fs (i + 1) xs ys r hr hx1 hy1
              have hag : isAggB P f.type = some false := by simp [isAggB, hu]
              simp only [Op.eqFields, hname, ne_eq, not_false_eq_true, if_true, Sem.run_bind, part, run_isAgg hag, Result.andThen_ok, hoff, hx0, hy0, Sem.run_pure, if_false, Bool.false_eq_true, run_equalIn_bool' w d f.type _ _ hu, Sem.run_ite, ih]
              unfold andB eqBl
              cases hab : a == b' <;> simp
            · cases h
          · cases h
        · cases h

theorem eqGuard_quiet (op : BinOp) (T : TypeId) (x y : Operand) (a b : Value) (w : World) (ha : ∀ cs, a ≠ .agg cs) (hn : a ≠ .nilIface) : (eqGuard op T x y a b).run P w = .ok () w := by
  unfold eqGuard
  cases op <;> simp
  all_goals (cases a <;> first | rfl | exact absurd rfl hn | exact absurd rfl (ha _))

theorem run_equalIn_ptr (d : Nat) {T e : TypeId} (hu : P.underlying T = some (.pointer e)) (p : Option Addr) (w : World) : (Op.equalIn (d + 1) T (.pointer p) (.pointer none)).run P w = .ok p.isNone w := by
  cases p <;> simp [Op.equalIn, run_underlying hu]
theorem run_equalIn_slice (d : Nat) {T e : TypeId} (hu : P.underlying T = some (.slice e)) (p : Option Addr) (l c l' c' : Nat) (w : World) : (Op.equalIn (d + 1) T (.slice p l c) (.slice none l' c')).run P w = .ok p.isNone w := by
  cases p <;> simp [Op.equalIn, run_underlying hu]
theorem run_equalIn_mapnil (d : Nat) {T e e' : TypeId} (hu : P.underlying T = some (.map e e')) (p : Option Nat) (w : World) : (Op.equalIn (d + 1) T (.map p) (.map none)).run P w = .ok p.isNone w := by
  cases p <;> simp [Op.equalIn, run_underlying hu]
theorem run_equalIn_fnil (d : Nat) {T : TypeId} {a b : Array TypeId} {c : Bool} (hu : P.underlying T = some (.func a b c)) (p : Value) (hp : isFn p = true) (w : World) : (Op.equalIn (d + 1) T p .nilFunc).run P w = .ok (isNV p) w := by
  cases p <;> simp [isFn] at hp <;> simp [Op.equalIn, run_underlying hu, isNV]
theorem run_bin_eq {neg : Bool} {op : BinOp} (hop : op = bif neg then .neq else .eql) {T : TypeId} {a b : Value} {w : World} {r : Bool}
    (hab : binOp op T a b = (bif neg then (do pure (.bool (!(← Op.equal T a b)))) else (do pure (.bool (← Op.equal T a b)))))
    (h : (Op.equalIn (9999 + 1) T a b).run P w = .ok r w) : (binOp op T a b).run P w = .ok (.bool (bif neg then notB r else r)) w := by
  have h' : (Op.equal T a b).run P w = .ok r w := h
  rw [hab]
  cases neg <;> simp only [cond, Sem.run_bind, h', Result.andThen_ok, Sem.run_pure] <;> rfl

theorem eqM_fin {neg : Bool} {k : Value → M} {w : World} (r : Bool) (h : eqOut neg k r w) : k (.bool (bif neg then notB r else r)) w := by
  cases neg <;> exact h

theorem eqM_sound {neg : Bool} {op : BinOp} (hop : op = bif neg then .neq else .eql) {T : TypeId} {x y : Operand} {a b : Value} {k : Value → M} {w : World}
    (h : eqM P T neg a b k w) : ∃ v, k v w ∧ ∀ w', (do eqGuard op T x y a b; binOp op T a b : Sem Value).run P w' = .ok v w' := by
  have hb : ∀ p q, eqM P T neg (.bool p) (.bool q) k w → ∃ v, k v w ∧ ∀ w', (do eqGuard op T x y (.bool p) (.bool q); binOp op T (.bool p) (.bool q) : Sem Value).run P w' = .ok v w' := by
    intro p q h
    unfold eqM at h
    rcases hu : P.underlying T with _ | d
    · simp only [hu] at h; exact h.elim
    · simp only [hu] at h
      cases d
      case bool =>
        refine ⟨_, eqM_fin _ h, fun w' => ?_⟩
        simp only [Sem.run_bind, eqGuard_quiet op T x y (.bool p) (.bool q) w' (by simp) (by simp), Result.andThen_ok]
        exact run_bin_eq hop (by cases neg <;> subst hop <;> rfl) (run_equalIn_bool' w' 9999 T p q hu)
      all_goals exact h.elim
  have hp : ∀ p, eqM P T neg (.pointer p) (.pointer none) k w → ∃ v, k v w ∧ ∀ w', (do eqGuard op T x y (.pointer p) (.pointer none); binOp op T (.pointer p) (.pointer none) : Sem Value).run P w' = .ok v w' := by
    intro p h
    unfold eqM at h
    rcases hu : P.underlying T with _ | d
    · simp only [hu] at h; exact h.elim
    · simp only [hu] at h
      cases d
      case pointer e =>
        refine ⟨_, eqM_fin _ h, fun w' => ?_⟩
        simp only [Sem.run_bind, eqGuard_quiet op T x y (.pointer p) (.pointer none) w' (by simp) (by simp), Result.andThen_ok]
        exact run_bin_eq hop (by cases neg <;> subst hop <;> rfl) (run_equalIn_ptr 9999 hu p w')
      all_goals exact h.elim
  have hs : ∀ p l c l' c', eqM P T neg (.slice p l c) (.slice none l' c') k w → ∃ v, k v w ∧ ∀ w', (do eqGuard op T x y (.slice p l c) (.slice none l' c'); binOp op T (.slice p l c) (.slice none l' c') : Sem Value).run P w' = .ok v w' := by
    intro p l c l' c' h
    unfold eqM at h
    rcases hu : P.underlying T with _ | d
    · simp only [hu] at h; exact h.elim
    · simp only [hu] at h
      cases d
      case slice e =>
        refine ⟨_, eqM_fin _ h, fun w' => ?_⟩
        simp only [Sem.run_bind, eqGuard_quiet op T x y (.slice p l c) (.slice none l' c') w' (by simp) (by simp), Result.andThen_ok]
        exact run_bin_eq hop (by cases neg <;> subst hop <;> rfl) (run_equalIn_slice 9999 hu p l c l' c' w')
      all_goals exact h.elim
  have hm : ∀ p, eqM P T neg (.map p) (.map none) k w → ∃ v, k v w ∧ ∀ w', (do eqGuard op T x y (.map p) (.map none); binOp op T (.map p) (.map none) : Sem Value).run P w' = .ok v w' := by
    intro p h
    unfold eqM at h
    rcases hu : P.underlying T with _ | d
    · simp only [hu] at h; exact h.elim
    · simp only [hu] at h
      cases d
      case map e e' =>
        refine ⟨_, eqM_fin _ h, fun w' => ?_⟩
        simp only [Sem.run_bind, eqGuard_quiet op T x y (.map p) (.map none) w' (by simp) (by simp), Result.andThen_ok]
        exact run_bin_eq hop (by cases neg <;> subst hop <;> rfl) (run_equalIn_mapnil 9999 hu p w')
      all_goals exact h.elim
  have hg : ∀ xs ys, eqM P T neg (.agg xs) (.agg ys) k w → ∃ v, k v w ∧ ∀ w', (do eqGuard op T x y (.agg xs) (.agg ys); binOp op T (.agg xs) (.agg ys) : Sem Value).run P w' = .ok v w' := by
    intro xs ys h
    unfold eqM at h
    rcases hr : eqSt P T xs.toList ys.toList with _ | r
    · simp only [hr] at h; exact h.elim
    · simp only [hr] at h
      refine ⟨_, eqM_fin _ h, fun w' => ?_⟩
      unfold eqSt at hr
      split at hr
      · rename_i fs hu
        split at hr
        · rename_i hst hgt
          have hf : P.fieldsOf T = fs := by simp [Program.fieldsOf, hu]
          have hu' : P.underlying T = some (.struct (P.fieldsOf T)) := by rw [hf]; exact hu
          have h1 := eqFs_sound (P := P) (xsA := xs) (ysA := ys) (d := 9998) w' fs.toList 0 _ _ _ hr (by simp) (by simp)
          have h2 := run_equalIn_struct (P := P) w' 9999 T xs ys hu' hst
          rw [hf, h1] at h2
          simp only [Sem.run_bind, run_eqGuard_agg w' op T x y xs ys hgt, Result.andThen_ok]
          cases neg <;> subst hop
          · simp only [cond]; rw [run_eql_struct, h2]; rfl
          · simp only [cond]; rw [run_neq_struct, h2]; rfl
        · cases hr
      · cases hr
  have hf : ∀ a, eqM P T neg a .nilFunc k w → ∃ v, k v w ∧ ∀ w', (do eqGuard op T x y a .nilFunc; binOp op T a .nilFunc : Sem Value).run P w' = .ok v w' := by
    intro a h
    have h : (match P.underlying T with
    | some (.func _ _ _) => rq (isFn a = true) (eqOut neg k (isNV a))
    | _ => F) w := h
    rcases hu : P.underlying T with _ | d
    · simp only [hu] at h; exact h.elim
    · simp only [hu] at h
      cases d
      case func e e' e'' =>
        obtain ⟨hfn, h⟩ := h
        refine ⟨_, eqM_fin _ h, fun w' => ?_⟩
        have hA : ∀ cs, a ≠ .agg cs := by rintro cs rfl; simp [isFn] at hfn
        have hN : a ≠ .nilIface := by rintro rfl; simp [isFn] at hfn
        simp only [Sem.run_bind, eqGuard_quiet op T x y a .nilFunc w' hA hN, Result.andThen_ok]
        exact run_bin_eq hop (by cases a <;> simp [isFn] at hfn <;> cases neg <;> subst hop <;> rfl) (run_equalIn_fnil 9999 hu a hfn w')
      all_goals exact h.elim
  cases b
  case nilFunc => exact hf _ h
  case bool q =>
    cases a
    case bool p => exact hb _ _ h
    all_goals exact h.elim
  case pointer q =>
    cases q
    case some q => exact h.elim
    case none =>
      cases a
      case pointer p => exact hp _ h
      all_goals exact h.elim
  case slice q l c =>
    cases q
    case some q => exact h.elim
    case none =>
      cases a
      case slice p l' c' => exact hs _ _ _ _ _ h
      all_goals exact h.elim
  case map q =>
    cases q
    case some q => exact h.elim
    case none =>
      cases a
      case map p => exact hm _ h
      all_goals exact h.elim
  case agg ys =>
    cases a
    case agg xs => exact hg _ _ h
    all_goals exact h.elim
  all_goals exact h.elim

theorem binM_sound {op : BinOp} {T : TypeId} {x y : Operand} {a b : Value} {k : Value → M} {w : World}
    (h : binM P op T a b k w) : ∃ v, k v w ∧ ∀ w', (do eqGuard op T x y a b; binOp op T a b : Sem Value).run P w' = .ok v w' := by
  have hi : ∀ kd p k' q, binM P op T (.int kd p) (.int k' q) k w → ∃ v, k v w ∧ ∀ w', (do eqGuard op T x y (.int kd p) (.int k' q); binOp op T (.int kd p) (.int k' q) : Sem Value).run P w' = .ok v w' := by
    intro kd p k' q h
    have g := fun w' => eqGuard_quiet (P := P) op T x y (.int kd p) (.int k' q) w' (by simp) (by simp)
    have hs : op = .shl ∨ op = .shr → intM op kd p q k w → ∃ v, k v w ∧ ∀ w', (do eqGuard op T x y (.int kd p) (.int k' q); binOp op T (.int kd p) (.int k' q) : Sem Value).run P w' = .ok v w' := by
      intro ho h
      obtain ⟨v, hv, hr⟩ := shiftM_sound (P := P) (T := T) (k' := k') ho h
      exact ⟨v, hv, fun w' => by simp only [Sem.run_bind, g, Result.andThen_ok, hr]⟩
    have ho : (match beqK kd k' with | true => intM op kd p q k | false => F) w → ∃ v, k v w ∧ ∀ w', (do eqGuard op T x y (.int kd p) (.int k' q); binOp op T (.int kd p) (.int k' q) : Sem Value).run P w' = .ok v w' := by
      intro g2
      cases hk : beqK kd k' with
      | false => simp only [hk] at g2; exact g2.elim
      | true =>
        simp only [hk] at g2
        have hk := beqK_eq hk
        subst hk
        obtain ⟨v, hv, hr⟩ := intM_sound (P := P) (T := T) g2
        exact ⟨v, hv, fun w' => by simp only [Sem.run_bind, g, Result.andThen_ok, hr]⟩
    cases op
    case shl => exact hs (.inl rfl) h
    case shr => exact hs (.inr rfl) h
    all_goals exact ho h
  have he : ∀ a b, (match op with
    | .eql => eqM P T false a b k
    | .neq => eqM P T true a b k
    | _ => F) w → ∃ v, k v w ∧ ∀ w', (do eqGuard op T x y a b; binOp op T a b : Sem Value).run P w' = .ok v w' := by
    intro a b h
    cases op
    case eql => exact eqM_sound (neg := false) rfl h
    case neq => exact eqM_sound (neg := true) rfl h
    all_goals exact h.elim
  cases b
  case nilFunc => exact he _ _ h
  all_goals
    cases a
    case int kd p => first | exact hi _ _ _ _ h | exact he _ _ h
    all_goals exact he _ _ h

theorem layAt_length : ∀ (n : Nat) (vs cs : List Value), n + vs.length ≤ cs.length → (layAt n vs cs).length = cs.length
  | 0, [], cs, _ => by cases cs <;> rfl
  | n + 1, [], cs, _ => by cases cs <;> rfl
  | 0, v :: vs, [], h => by simp at h
  | 0, v :: vs, c :: cs, h => by simp [layAt, layAt_length 0 vs cs (by simpa using h)]
  | n + 1, v :: vs, [], h => by simp at h
  | n + 1, v :: vs, c :: cs, h => by
    have := layAt_length n (v :: vs) cs (by simp at h ⊢; omega)
    simp [layAt, this]

theorem layAt_get : ∀ (n : Nat) (vs cs : List Value), n + vs.length ≤ cs.length → ∀ i, (layAt n vs cs)[i]? = if n ≤ i ∧ i < n + vs.length then vs[i - n]? else cs[i]?
  | n, [], cs, h, i => by
    have : layAt n [] cs = cs := by cases n <;> cases cs <;> rfl
    rw [this, if_neg (by simp)]
  | 0, v :: vs, [], h, i => by simp at h
  | 0, v :: vs, c :: cs, h, i => by
    cases i with
    | zero => simp [layAt]
    | succ i =>
      simp only [layAt, List.getElem?_cons_succ]
      rw [layAt_get 0 vs cs (by simpa using h) i]
      by_cases hi : i < vs.length <;> simp [hi]
  | n + 1, v :: vs, [], h, i => by simp at h
  | n + 1, v :: vs, c :: cs, h, i => by
    cases i with
    | zero => simp [layAt]
    | succ i =>
      simp only [layAt, List.getElem?_cons_succ]
      rw [layAt_get n (v :: vs) cs (by simp at h ⊢; omega) i]
      by_cases hi : n ≤ i ∧ i < n + (v :: vs).length
      · rw [if_pos hi, if_pos (by omega), show i + 1 - (n + 1) = i - n by omega]
      · rw [if_neg hi, if_neg (by omega)]

theorem foldl_lay (off : Nat) : ∀ (vs : List Value) (j : Nat) (cs : Array Value), off + j + vs.length ≤ cs.size →
    ((vs.zipIdx j).foldl (fun (cs : Array Value) (x : Value × Nat) => cs.setIfInBounds (off + x.2) x.1) cs).toList = layAt (off + j) vs cs.toList
  | [], j, cs, _ => by
    have : layAt (off + j) [] cs.toList = cs.toList := by cases (off + j) <;> cases cs.toList <;> rfl
    simp [this]
  | v :: vs, j, cs, h => by
    simp only [List.zipIdx_cons, List.foldl_cons]
    rw [foldl_lay off vs (j + 1) _ (by simp at h ⊢; omega)]
    simp at h
    apply List.ext_getElem?
    intro i
    rw [layAt_get _ _ _ (by simp; omega), layAt_get _ _ _ (by simp; omega)]
    simp only [Array.toList_setIfInBounds, List.length_cons]
    by_cases h1 : off + j = i
    · subst h1
      rw [if_neg (by omega), if_pos (by omega)]
      simp [List.getElem?_set]
      omega
    · by_cases h2 : off + (j + 1) ≤ i ∧ i < off + (j + 1) + vs.length
      · rw [if_pos h2, if_pos (by omega)]
        rw [show i - (off + j) = (i - (off + (j + 1))) + 1 by omega]
        simp
      · rw [if_neg h2, if_neg (by omega)]
        rw [List.getElem?_set]; simp [h1]

theorem fillL_sound {place place' : Nat → Option (Nat × Nat)} (hp : ∀ i x, place i = some x → place' i = some x) : ∀ (parts : List (Nat × Value)) (cs : Array Value) (out : List Value),
    fillL place cs.toList parts = some out → Instr.fill place' cs parts = some out.toArray
  | [], cs, out, h => by simp [fillL] at h; subst h; simp [Instr.fill]
  | (i, v) :: rest, cs, out, h => by
    unfold fillL at h
    split at h
    · cases h
    · rename_i off size hpl
      split at h
      · rename_i h1 h2
        have h1 : v.cells.toList.length = size := Nat.eq_of_beq_eq_true h1
        have h2 : off + v.cells.toList.length ≤ cs.toList.length := Nat.le_of_ble_eq_true h2
        have hf := foldl_lay off v.cells.toList 0 cs (by simpa using h2)
        simp only [Nat.add_zero] at hf
        rw [← hf] at h
        have := fillL_sound hp rest _ out h
        simp only [Instr.fill, hp _ _ hpl]
        rw [if_neg (by simp at h1 h2 ⊢; omega)]
        rw [← this]
        congr 1
        rw [← Array.foldl_toList]
        simp
      · cases h

end Go.SX
