/- XS: the executor is sound: quiet operations, second part. -/
import Derived.Test.YtlcaelckplknnaaGreatDoorXS2
set_option linter.unusedVariables false
set_option linter.unusedSimpArgs false
namespace Go.XC
open Go Go.SX
variable {β : Type} {P : Program}

/-! parts -/
theorem takeK_inv : ∀ (n : Nat) (l : List A) (k : List A → Option β) (r : β), takeK n l k = some r → k (l.take n) = some r
  | 0, l, k, r, h => by simpa [takeK] using h
  | n + 1, [], k, r, h => by simpa [takeK] using h
  | n + 1, x :: l, k, r, h => takeK_inv n l _ r h
theorem dropK_inv : ∀ (n : Nat) (l : List A) (k : List A → Option β) (r : β), dropK n l k = some r → k (l.drop n) = some r
  | 0, l, k, r, h => by simpa [dropK] using h
  | n + 1, [], k, r, h => by simpa [dropK] using h
  | n + 1, x :: l, k, r, h => by
    have h' : dropK n l k = some r := h
    simpa using dropK_inv n l k r h'
theorem partX_inv {T : TypeId} {cs : List A} {off : Nat} {k : A → Option β} {r : β} (h : partX P T cs off k = some r) :
    ∃ a, k a = some r ∧ ∀ V us, concL V cs = some us → ∃ v, conc V a = some v ∧ partL P T us off = some v := by
  unfold partX at h
  split at h
  · rename_i n h1 h2
    have h3 := takeK_inv _ _ _ _ (dropK_inv _ _ _ _ h)
    refine ⟨_, h3, fun V us hus => ⟨_, by simp [conc, concL_take n (concL_drop off hus)]; rfl, ?_⟩⟩
    simp [partL, h1, h2]
  · rename_i h1
    obtain ⟨a, ha, h⟩ := oK_inv h
    refine ⟨a, h, fun V us hus => ?_⟩
    rw [at?_eq] at ha
    obtain ⟨v, h2, h3⟩ := concL_at hus ha
    refine ⟨v, h2, ?_⟩
    unfold partL; rw [h1]; exact h3
  · cases h

theorem cells_sound {a : A} {l : List A} (h : a.cells = some l) {V : Vn} {v : Value} (hv : conc V a = some v) : concL V l = some v.cells.toList := by
  cases a
  case agg l' =>
    simp only [A.cells, Option.some.injEq] at h; subst h
    simp only [conc, Option.map_eq_some_iff] at hv
    obtain ⟨us, h1, rfl⟩ := hv
    simpa [Value.cells] using h1
  case tup => cases h
  case lit u =>
    simp only [A.cells] at h
    split at h
    · rename_i ho
      simp only [Option.some.injEq] at h; subst h
      simp only [conc, Option.some.injEq] at hv; subst hv
      rw [ok1_cells ho]; simp [concL, conc]
    · cases h
  case sym =>
    simp only [A.cells, Option.some.injEq] at h; subst h
    have hv' := hv
    simp only [conc, Option.map_eq_some_iff] at hv
    obtain ⟨x, _, rfl⟩ := hv
    simp [concL, hv', Value.cells]
  case ptr =>
    simp only [A.cells, Option.some.injEq] at h; subst h
    have hv' := hv
    simp only [conc, Option.map_eq_some_iff] at hv
    obtain ⟨x, _, rfl⟩ := hv
    simp [concL, hv', Value.cells]
  case mp =>
    simp only [A.cells, Option.some.injEq] at h; subst h
    have hv' := hv
    simp only [conc, Option.map_eq_some_iff] at hv
    obtain ⟨x, _, rfl⟩ := hv
    simp [concL, hv', Value.cells]
  case ifc =>
    simp only [A.cells, Option.some.injEq] at h; subst h
    have hv' := hv
    simp only [conc, Option.map_eq_some_iff] at hv
    obtain ⟨x, _, rfl⟩ := hv
    simp [concL, hv', Value.cells]
  case sl =>
    simp only [A.cells, Option.some.injEq] at h; subst h
    have hv' := hv
    simp only [conc, Option.bind_eq_some_iff, Option.map_eq_some_iff] at hv
    obtain ⟨x, _, c, _, rfl⟩ := hv
    simp [concL, hv', Value.cells]
  case fn =>
    simp only [A.cells, Option.some.injEq] at h; subst h
    have hv' := hv
    simp only [conc, Option.bind_eq_some_iff, Option.map_eq_some_iff] at hv
    obtain ⟨x, _, c, _, rfl⟩ := hv
    simp [concL, hv', Value.cells]

theorem layK_inv : ∀ (n : Nat) (vs cs : List A) (k : List A → Option β) (r : β), layK n vs cs k = some r →
    ∃ cs', k cs' = some r ∧ cs'.length = cs.length ∧ ∀ V us ws, concL V vs = some us → concL V cs = some ws → concL V cs' = some (layAt n us ws)
  | n, [], cs, k, r, h => by
    have h' : k cs = some r := by cases n <;> cases cs <;> exact h
    refine ⟨cs, h', rfl, fun V us ws hu hw => ?_⟩
    simp only [concL, Option.some.injEq] at hu; subst hu
    cases n <;> cases ws <;> simpa [layAt] using hw
  | 0, v :: vs, c :: cs, k, r, h => by
    obtain ⟨cs', h1, h2, h3⟩ := layK_inv 0 vs cs _ r h
    refine ⟨v :: cs', h1, by simp [h2], fun V us ws hu hw => ?_⟩
    obtain ⟨u, us', e1, e2, rfl⟩ := concL_cons hu
    obtain ⟨w, ws', e3, e4, rfl⟩ := concL_cons hw
    simp only [layAt]
    exact concL_mk e1 (h3 V us' ws' e2 e4)
  | n + 1, v :: vs, c :: cs, k, r, h => by
    obtain ⟨cs', h1, h2, h3⟩ := layK_inv n (v :: vs) cs _ r h
    refine ⟨c :: cs', h1, by simp [h2], fun V us ws hu hw => ?_⟩
    obtain ⟨u, us', e1, e2, rfl⟩ := concL_cons hu
    obtain ⟨w, ws', e3, e4, rfl⟩ := concL_cons hw
    simp only [layAt]
    exact concL_mk e3 (h3 V (u :: us') ws' hu e4)
  | 0, v :: vs, [], k, r, h => by
    have h' : k [] = some r := h
    refine ⟨[], h', rfl, fun V us ws hu hw => ?_⟩
    simp only [concL, Option.some.injEq] at hw; subst hw
    cases us <;> simp [layAt, concL]
  | n + 1, v :: vs, [], k, r, h => by
    have h' : k [] = some r := h
    refine ⟨[], h', rfl, fun V us ws hu hw => ?_⟩
    simp only [concL, Option.some.injEq] at hw; subst hw
    cases us <;> simp [layAt, concL]

theorem fillK_inv {place : Nat → Option (Nat × Nat)} : ∀ (ps : List (Nat × A)) (cells : List A) (k : List A → Option β) (r : β), fillK place cells ps k = some r →
    ∃ cs, k cs = some r ∧ cs.length = cells.length ∧ ∀ V vs us, concL V cells = some vs → PL V ps us → ∃ ws, fillL place vs us = some ws ∧ concL V cs = some ws
  | [], cells, k, r, h => by
    refine ⟨cells, by simpa [fillK] using h, rfl, fun V vs us hv hp => ?_⟩
    have : us = [] := by have := hp.1; simpa using this
    subst this
    exact ⟨vs, rfl, hv⟩
  | (i, a) :: ps, cells, k, r, h => by
    unfold fillK at h
    split at h
    · cases h
    · rename_i off size hpl
      obtain ⟨vs, hvs, h⟩ := oK_inv h
      obtain ⟨h1, h⟩ := ck_inv h
      obtain ⟨h2, h⟩ := ck_inv h
      obtain ⟨cs', h, hl, h3⟩ := layK_inv _ _ _ _ _ h
      obtain ⟨cs, h, hl2, h4⟩ := fillK_inv ps cs' k r h
      refine ⟨cs, h, hl2.trans hl, fun V ws us hw hp => ?_⟩
      obtain ⟨hp1, hp2⟩ := hp
      cases us with
      | nil => simp at hp1
      | cons u us =>
        obtain ⟨j, u⟩ := u
        simp only [List.map_cons, List.cons.injEq] at hp1 hp2
        obtain ⟨rfl, hp1⟩ := hp1
        obtain ⟨v, vs', e1, e2, e3⟩ := concL_cons hp2
        simp only [List.cons.injEq] at e3
        obtain ⟨rfl, rfl⟩ := e3
        have e4 := cells_sound hvs e1
        have e5 := h3 V _ _ e4 hw
        obtain ⟨ts, e6, e7⟩ := h4 V _ us e5 ⟨hp1, e2⟩
        refine ⟨ts, ?_, e7⟩
        have l1 := concL_length e4
        have l2 := concL_length hw
        unfold fillL
        simp only [hpl, l1, l2, h1, h2]
        exact e6

theorem buildX_inv {T : TypeId} {ps : List (Nat × A)} {k : A → Option β} {r : β} (h : buildX P T ps k = some r) :
    ∃ a, k a = some r ∧ ∀ V us (K : Value → M) w, PL V ps us → (∀ v, conc V a = some v → K v w) → buildM P T us K w := by
  unfold buildX at h
  split at h
  · rename_i fs z hu hz
    obtain ⟨h1, h⟩ := ck_inv h
    obtain ⟨za, h, hza⟩ := ofVsK_inv _ _ _ h
    obtain ⟨cs, h, _, h2⟩ := fillK_inv _ _ _ _ h
    refine ⟨_, h, fun V us K w hp hK => ?_⟩
    obtain ⟨ws, h3, h4⟩ := h2 V _ us (hza V) hp
    simp only [buildM, hu, hz, h1, h3]
    exact hK _ (by simp [conc, h4])
  · rename_i e z hu hz
    split at h
    · rename_i size hs
      obtain ⟨za, h, hza⟩ := ofVsK_inv _ _ _ h
      obtain ⟨cs, h, _, h2⟩ := fillK_inv _ _ _ _ h
      refine ⟨_, h, fun V us K w hp hK => ?_⟩
      obtain ⟨ws, h3, h4⟩ := h2 V _ us (hza V) hp
      simp only [buildM, hu, hz, hs, h3]
      exact hK _ (by simp [conc, h4])
    · cases h
  · cases h

/-! maps -/
theorem findE_sound {V : Vn} {kd : IntKind} {n : Int} : ∀ (es : List Ent) (es' : List MapEntry) (i : Nat) (r : Option (Nat × A)), findE kd n i es = some r → es'.length = es.length →
    (∀ (i : Nat) e, es[i]? = some e → ∃ e', es'[i]? = some e' ∧ e'.born = e.born ∧ conc V e.key = some e'.key ∧ conc V e.val = some e'.val) →
    ∃ r', Instr.findNow (.int kd) (.int kd n) es' i = some r' ∧ (match r with
      | none => r' = none
      | some (j, a) => ∃ v, conc V a = some v ∧ r' = some (j, v) ∧ i ≤ j ∧ ∃ e, es[j - i]? = some e ∧ e.val = a ∧ e.key = .lit (.int kd n))
  | [], es', i, r, h, hl, he => by
    simp only [findE, Option.some.injEq] at h; subst h
    have : es' = [] := by simpa using hl
    subst this
    exact ⟨none, rfl, rfl⟩
  | e :: es, [], i, r, h, hl, he => by simp at hl
  | e :: es, e' :: es', i, r, h, hl, he => by
    unfold findE at h
    obtain ⟨e'', h1, h2, h3, h4⟩ := he 0 e rfl
    simp only [List.getElem?_cons_zero, Option.some.injEq] at h1; subst h1
    split at h
    · rename_i kd' m hk
      rw [hk] at h3
      simp only [conc, Option.some.injEq] at h3
      split at h
      · rename_i g1 g2
        have g1 := beqK_eq g1; have g2 := eqI_iff'.1 g2
        subst g1 g2
        simp only [Option.some.injEq] at h; subst h
        refine ⟨some (i, e'.val), ?_, e'.val, h4, rfl, Nat.le_refl _, e, by simp, rfl, hk⟩
        simp [Instr.findNow, Instr.sameNow, ← h3]
      · rename_i g1 g2
        have g1 := beqK_eq g1
        have g2 : n ≠ m := by simpa [eqI] using g2
        subst g1
        obtain ⟨r', h5, h6⟩ := findE_sound es es' (i + 1) r h (by simpa using hl) (fun j x hx => he (j + 1) x (by simpa using hx))
        refine ⟨r', ?_, ?_⟩
        · simp only [Instr.findNow, Instr.sameNow, ← h3, if_true, beq_iff_eq, g2, beq_eq_false_iff_ne.2 g2]
          exact h5
        · cases r with
          | none => exact h6
          | some x =>
            obtain ⟨j, a⟩ := x
            obtain ⟨v, g3, g4, g5, e2, g6, g7, g8⟩ := h6
            exact ⟨v, g3, g4, by omega, e2, by rw [show j - i = (j - (i + 1)) + 1 by omega]; simpa using g6, g7, g8⟩
      · cases h
    · cases h

theorem isIntA_sound {key : A} (h1 : isIntA key = true) {V : Vn} {u : Value} (hu : conc V key = some u) : ∃ kd n, u = .int kd n := by
  unfold isIntA at h1
  split at h1
  · simp only [conc, Option.some.injEq] at hu; subst hu; exact ⟨_, _, rfl⟩
  · simp only [conc, Option.map_eq_some_iff] at hu
    obtain ⟨x, _, rfl⟩ := hu; exact ⟨_, _, rfl⟩
  · cases h1
theorem findX_inv {kT : TypeId} {es : List Ent} {key : A} {k : Option (Nat × A) → Option β} {r : β} (h : findX P kT es key k = some r) :
    ∃ x, k x = some r ∧ ∀ V (es' : List MapEntry) u, conc V key = some u → es'.length = es.length →
      (∀ (i : Nat) e, es[i]? = some e → ∃ e', es'[i]? = some e' ∧ e'.born = e.born ∧ conc V e.key = some e'.key ∧ conc V e.val = some e'.val) →
      ∃ x', (∀ em w, (Instr.checkKey em 10000 kT u).run P w = .ok () w) ∧ (∀ w, (Instr.findKey kT u es').run P w = .ok x' w) ∧ (match x with
        | none => x' = none
        | some (j, a) => ∃ v, conc V a = some v ∧ x' = some (j, v) ∧ ∃ e kd n, es[j]? = some e ∧ e.val = a ∧ key = .lit (.int kd n) ∧ e.key = .lit (.int kd n)) := by
  unfold findX at h
  obtain ⟨h0, h⟩ := ck_inv h
  have hT : ∃ kd, P.underlying kT = some (.int kd) := by
    unfold isIntT at h0
    split at h0
    · rename_i kd hk; exact ⟨kd, hk⟩
    · cases h0
  obtain ⟨kd0, hT⟩ := hT
  have hck : ∀ {kd n} em w, (Instr.checkKey em 10000 kT (.int kd n)).run P w = .ok () w := by
    intro kd n em w
    unfold Instr.checkKey
    simp only [Sem.run_bind, run_underlying hT, Result.andThen_ok, Sem.run_pure]
  split at h
  · obtain ⟨h1, h⟩ := ck_inv h
    refine ⟨none, h, fun V es' u hu hl he => ?_⟩
    have : es' = [] := by simpa using hl
    subst this
    obtain ⟨kd, n, rfl⟩ := isIntA_sound h1 hu
    exact ⟨none, fun em w => hck em w, fun w => by simp [Instr.findKey, run_underlying hT, Instr.findNow], rfl⟩
  · obtain ⟨⟨kd, n⟩, hn, h⟩ := oK_inv h
    obtain ⟨x, hx, h⟩ := oK_inv h
    have hkey : key = .lit (.int kd n) := by
      unfold keyI at hn
      split at hn
      · simp only [Option.some.injEq, Prod.mk.injEq] at hn; obtain ⟨rfl, rfl⟩ := hn; rfl
      · cases hn
    refine ⟨x, h, fun V es' u hu hl he => ?_⟩
    subst hkey
    simp only [conc, Option.some.injEq] at hu; subst hu
    obtain ⟨x', h1, h2⟩ := findE_sound (V := V) _ es' 0 x hx hl he
    refine ⟨x', fun em w => hck em w, fun w => ?_, ?_⟩
    · have : Instr.findNow (.int kd0) (.int kd n) es' 0 = some x' := by
        rw [← h1]
        have : ∀ (l : List MapEntry) (i : Nat), Instr.findNow (.int kd0) (.int kd n) l i = Instr.findNow (.int kd) (.int kd n) l i := by
          intro l
          induction l with
          | nil => intro i; rfl
          | cons y l ih => intro i; simp only [Instr.findNow]; cases y.key <;> simp [Instr.sameNow, ih]
        exact this es' 0
      simp [Instr.findKey, run_underlying hT, this]
    · cases x with
      | none => exact h2
      | some x =>
        obtain ⟨j, a⟩ := x
        obtain ⟨v, g1, g2, _, e, g3, g4, g5⟩ := h2
        exact ⟨v, g1, g2, e, kd, n, by simpa using g3, g4, rfl, g5⟩

theorem entsX_sound {s : St} {m : A} {es : List Ent} (h : entsX s m = some es) {V : Vn} {w : World} (hR : Rel V s w) {u : Value} (hu : conc V m = some u) :
    ∃ q es', u = .map q ∧ mpAt w q es' ∧ es'.toList.length = es.length ∧
      ∀ (i : Nat) e, es[i]? = some e → ∃ e', es'.toList[i]? = some e' ∧ e'.born = e.born ∧ conc V e.key = some e'.key ∧ conc V e.val = some e'.val := by
  unfold entsX at h
  split at h
  · simp only [Option.some.injEq] at h; subst h
    simp only [conc, Option.some.injEq] at hu; subst hu
    exact ⟨none, #[], rfl, rfl, rfl, fun i e he => by simp at he⟩
  · split at h
    · rename_i b _ _ c hB
      simp only [Option.some.injEq] at h; subst h
      obtain ⟨x, hx, es', h1, h2, h3⟩ := hR.blk _ _ hB
      simp only [conc, hx, Option.map_some, Option.some.injEq] at hu; subst hu
      exact ⟨some x, es'.toArray, rfl, ⟨c, h1⟩, by simpa using h2, by simpa using h3⟩
    · cases h
  · cases h

/-! a value of a type's form -/
theorem exD_of {V : Vn} {w : World} {K : List Value → M} : ∀ (ss : List Srt) (as : List A) (vs : List Value), okSs ss as = true → concL V as = some vs → K vs w → exD ss K w
  | [], [], vs, _, hv, hK => by simp [concL] at hv; subst hv; exact hK
  | s :: ss, a :: as, vs, h, hv, hK => by
    obtain ⟨v, us, h1, h2, rfl⟩ := concL_cons hv
    unfold okSs at h
    split at h
    case h_2 => cases h
    rename_i h0
    obtain ⟨d, rfl⟩ := okS_sound h0 h1
    exact ⟨d, exD_of (K := fun vs => K (s.val d :: vs)) ss as us h h2 hK⟩
  | [], _ :: _, _, h, _, _ => by cases h
  | _ :: _, [], _, h, _, _ => by cases h
theorem okT1_sound {T : TypeId} {a : A} (h : okT1 P T a = true) {V : Vn} {v : Value} (hv : conc V a = some v) {K : Value → M} {w : World} (hK : K v w) : asT P T K w := by
  unfold okT1 at h
  have agg : ∀ {l : List A} {ss : List Srt}, cellSrts P 40 T = some ss → a = .agg l → okSs ss l = true → exD ss (fun vs => K (.agg vs.toArray)) w := by
    intro l ss h1 ha h2
    subst ha
    simp only [conc, Option.map_eq_some_iff] at hv
    obtain ⟨us, h3, rfl⟩ := hv
    exact exD_of ss l us h2 h3 hK
  split at h
  · rename_i fs hu
    split at h
    · rename_i ss l hs
      unfold asT; rw [hu]; simp only [hs]
      exact agg hs rfl h
    · cases h
  · rename_i n e hu
    split at h
    · rename_i ss l hs
      unfold asT; rw [hu]; simp only [hs]
      exact agg hs rfl h
    · cases h
  · rename_i d n1 n2 hu
    have : okS (srtOf d) a = true := by
      split at h
      · cases h
      · cases h
      · exact h
    obtain ⟨e, rfl⟩ := okS_sound this hv
    unfold asT; rw [hu]
    cases d <;> first | exact absurd rfl (n1 _) | exact absurd rfl (n2 _ _) | exact ⟨e, hK⟩
  · cases h
theorem okTs_sound {V : Vn} {w : World} {K : List Value → M} : ∀ (Ts : List TypeId) (as : List A) (vs : List Value), okTs P Ts as = true → concL V as = some vs → K vs w → asTs P Ts K w
  | [], [], vs, _, hv, hK => by simp [concL] at hv; subst hv; exact hK
  | T :: Ts, a :: as, vs, h, hv, hK => by
    obtain ⟨v, us, h1, h2, rfl⟩ := concL_cons hv
    unfold okTs at h
    split at h
    · rename_i h0
      exact okT1_sound (K := fun v => asTs P Ts fun vs => K (v :: vs)) h0 h1 (okTs_sound (K := fun vs => K (v :: vs)) Ts as us h h2 hK)
    · cases h
  | [], _ :: _, _, h, _, _ => by cases h
  | _ :: _, [], _, h, _, _ => by cases h
theorem okTy_sound {T : TypeId} {a : A} (h : okTy P T a = true) {V : Vn} {v : Value} (hv : conc V a = some v) {K : Value → M} {w : World} (hK : K v w) : asTy P T v K w := by
  unfold okTy at h
  unfold asTy
  split at h
  · rename_i ts hu
    split at h
    · simp only [conc, Option.map_eq_some_iff] at hv
      obtain ⟨us, h1, rfl⟩ := hv
      rw [hu]
      exact okTs_sound (K := fun us' => rq _ _) _ _ us h h1 ⟨rfl, hK⟩
    · cases h
  · rename_i hn
    have h5 := okT1_sound (K := fun u => rq (v = u) (K u)) h hv (w := w) ⟨rfl, hK⟩
    rcases hu : P.underlying T with _ | d
    · exact h5
    · cases d <;> first | exact absurd hu (hn _) | exact h5

end Go.XC
