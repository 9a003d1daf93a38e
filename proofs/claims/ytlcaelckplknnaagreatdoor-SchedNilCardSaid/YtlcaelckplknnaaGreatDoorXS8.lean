/- XS: the executor is sound: all operations that do something. -/
import Derived.Test.YtlcaelckplknnaaGreatDoorXS7
set_option linter.unusedVariables false
set_option linter.unusedSimpArgs false
namespace Go.XC
open Go Go.SX
variable {β : Type} {P : Program}

theorem cpyX_inv {s : St} {sz : Nat} {d x : A} {k : A → St → Option β} {r : β} (h : cpyX s sz d x k = some r) :
    ∃ a s', k a s' = some r ∧ ∀ V w vd vx (K : Nat → M), Rel V s w → conc V d = some vd → conc V x = some vx →
      (∀ V' c w', Mv V s w V' s' w' → conc V' a = some (.int .i64 (c : Nat)) → K c w') →
      ∃ q n c q' n' c', vd = .slice q n c ∧ vx = .slice q' n' c' ∧ cpy sz ⟨q, n, c⟩ ⟨q', n', c'⟩ K w := by
  obtain ⟨n, hn, h⟩ := oK_inv h
  obtain ⟨m, hm, h⟩ := oK_inv h
  have h := fN_inv h
  split at h
  · rename_i _ hc
    refine ⟨_, s, h, fun V w vd vx K hR hd hx hK => ?_⟩
    obtain ⟨q, c, rfl⟩ := lenA_sound hn hd
    obtain ⟨q', c', rfl⟩ := lenA_sound hm hx
    refine ⟨_, _, _, _, _, _, rfl, rfl, ?_⟩
    have hK0 := hK V 0 w (Mv.refl hR rfl (Rest.refl w)) rfl
    have hst : stS q [] (K 0) w := by
      cases q with
      | none => exact hK0
      | some q => exact ⟨fun i hi => by simp at hi, rfl, by simpa [setN] using hK0⟩
    show rdS q' (Nat.min m n) sz (fun cs => stS q cs (K (Nat.min m n))) w
    rw [hc]
    cases q' with
    | none => exact hst
    | some q' => exact ⟨[], by simp, fun i hi => by simp at hi, hst⟩
  · rename_i _ c hc
    split at h
    · simp only [lenA, Option.some.injEq] at hn hm
      obtain ⟨cs, h, hcl, hcr⟩ := rdNK_inv _ _ _ _ h
      obtain ⟨s', h, hs⟩ := stX_inv h
      refine ⟨_, s', h, fun V w vd vx K hR hd hx hK => ?_⟩
      simp only [conc, Option.bind_eq_some_iff, Option.map_eq_some_iff] at hd hx
      obtain ⟨x1, hx1, c1, hc1, rfl⟩ := hd
      obtain ⟨x2, hx2, c2, hc2, rfl⟩ := hx
      obtain ⟨us, hus, huc⟩ := rdN_sound' hR hx2 cs _ hcr
      refine ⟨_, _, _, _, _, _, rfl, rfl, ?_⟩
      subst hn hm
      show rdS (some _) (Nat.min _ _) sz (fun cs => stS (some _) cs (K (Nat.min _ _))) w
      rw [hc]
      refine ⟨us, by rw [concL_length hus, hcl], fun i hi => by rw [add_mk]; exact huc i (by rw [hcl]; exact hi), ?_⟩
      exact hs V w x1 us _ hR hx1 hus (fun w' hm => hK V _ w' hm rfl)
    · cases h

theorem bltnX_inv {b : Builtin} {tys : List TypeId} {args : List A} {s : St} {k : A → St → Option β} {r : β} (h : bltnX P b tys args s k = some r) :
    ∃ a s', k a s' = some r ∧ ∀ V w vs (ks : List Rd) (K : Value → M), Rel V s w → concL V args = some vs →
      (∀ V' v w', Mv V s w V' s' w' → conc V' a = some v → (∀ r ∈ ks, r.same w w') ∧ K v w') → bltnE P b tys vs ks K w := by
  unfold bltnX at h
  split at h
  · split at h
    · rename_i hu1 hu2
      obtain ⟨sz, bytes, z, h, hzl, hinf⟩ := infoX_inv h
      obtain ⟨a, s', h, ha⟩ := apdX_inv h
      refine ⟨a, s', h, fun V w vs ks K hR hv hK => ?_⟩
      obtain ⟨v1, us, h1, h2, rfl⟩ := concL_cons hv
      obtain ⟨v2, us', h3, h4, rfl⟩ := concL_cons h2
      simp only [concL, Option.some.injEq] at h4; subst h4
      obtain ⟨q, n, c, q', n', c', rfl, rfl, h5⟩ := ha V w z v1 v2 (fun r => kpw ks K w (.slice r.a r.len r.cap)) hzl hR h1 h3 (fun V' q n c w' hm hc => kpw_mk (hK V' _ w' hm hc))
      simp only [bltnE, hu1, hu2]
      exact hinf _ w h5
    · cases h
  · split at h
    · rename_i hu1 hu2
      obtain ⟨sz, bytes, z, h, hzl, hinf⟩ := infoX_inv h
      obtain ⟨a, s', h, ha⟩ := cpyX_inv h
      refine ⟨a, s', h, fun V w vs ks K hR hv hK => ?_⟩
      obtain ⟨v1, us, h1, h2, rfl⟩ := concL_cons hv
      obtain ⟨v2, us', h3, h4, rfl⟩ := concL_cons h2
      simp only [concL, Option.some.injEq] at h4; subst h4
      obtain ⟨q, n, c, q', n', c', rfl, rfl, h5⟩ := ha V w v1 v2 (fun n => kpw ks K w (.int .i64 n)) hR h1 h3 (fun V' c w' hm hc => kpw_mk (hK V' _ w' hm hc))
      simp only [bltnE, hu1, hu2]
      exact hinf _ w h5
    · cases h
  · split at h
    · rename_i hu
      obtain ⟨s', h, hs⟩ := mdelX_inv h
      refine ⟨_, s', h, fun V w vs ks K hR hv hK => ?_⟩
      obtain ⟨v1, us, h1, h2, rfl⟩ := concL_cons hv
      obtain ⟨v2, us', h3, h4, rfl⟩ := concL_cons h2
      simp only [concL, Option.some.injEq] at h4; subst h4
      obtain ⟨q, rfl, h5⟩ := hs V w v1 v2 (kpw ks K w undefV) hR h1 h3 (fun w' hm => kpw_mk (hK V _ w' hm (conc_undef' V)))
      simp only [bltnE, hu]
      exact h5
    · cases h
  · split at h
    · rename_i hu
      obtain ⟨es, hes, h⟩ := oK_inv h
      have h := fN_inv h
      refine ⟨_, s, h, fun V w vs ks K hR hv hK => ?_⟩
      obtain ⟨v1, us, h1, h2, rfl⟩ := concL_cons hv
      simp only [concL, Option.some.injEq] at h2; subst h2
      obtain ⟨q, es', rfl, h3, h4, _⟩ := entsX_sound hes hR h1
      simp only [bltnE, hu]
      refine ⟨es', h3, ?_⟩
      have h5 : es'.size = es.length := by simpa using h4
      rw [h5]
      exact kpw_mk (hK V _ w (Mv.refl hR rfl (Rest.refl w)) rfl)
    · cases h
  · cases h

/-! ranges -/
theorem snocK_inv : ∀ (l : List Nat) (x : Nat) (k : List Nat → Option β) (r : β), snocK l x k = some r → k (l ++ [x]) = some r
  | [], x, k, r, h => h
  | y :: l, x, k, r, h => snocK_inv l x _ r h
theorem lastN_eq : ∀ (l : List Nat), lastN l = l.getLast?
  | [] => rfl
  | [x] => rfl
  | x :: y :: l => by simp only [lastN]; rw [lastN_eq (y :: l)]; simp [List.getLast?_cons_cons]

theorem ER.nil {V : Vn} {es' : List MapEntry} (h : ER V [] es') : es' = [] := by simpa using h.1
theorem ER.cons {V : Vn} {e : Ent} {es : List Ent} {es' : List MapEntry} (h : ER V (e :: es) es') : ∃ e' l, es' = e' :: l ∧ e'.born = e.born ∧ conc V e.key = some e'.key ∧ conc V e.val = some e'.val ∧ ER V es l := by
  obtain ⟨h1, h2⟩ := h
  cases es' with
  | nil => simp at h1
  | cons e' l =>
    obtain ⟨e'', h3, h4⟩ := h2 0 e rfl
    simp only [List.getElem?_cons_zero, Option.some.injEq] at h3; subst h3
    exact ⟨e', l, rfl, h4.1, h4.2.1, h4.2.2, by simpa using h1, fun i x hx => by obtain ⟨y, g1, g2⟩ := h2 (i + 1) x (by simpa using hx); exact ⟨y, by simpa using g1, g2⟩⟩
theorem ER.mk_cons {V : Vn} {e : Ent} {es : List Ent} {e' : MapEntry} {l : List MapEntry} (h1 : e'.born = e.born) (h2 : conc V e.key = some e'.key) (h3 : conc V e.val = some e'.val) (h : ER V es l) : ER V (e :: es) (e' :: l) := by
  refine ⟨by simp [h.1], fun i x hx => ?_⟩
  cases i with
  | zero => simp at hx; subst hx; exact ⟨e', rfl, h1, h2, h3⟩
  | succ i => simp at hx; obtain ⟨y, g1, g2⟩ := h.2 i x hx; exact ⟨y, by simpa using g1, g2⟩

theorem leftE_sound {V : Vn} {since : Nat} {seen : List Nat} : ∀ (es : List Ent) (es' : List MapEntry), ER V es es' →
    ER V (leftE since seen es).1 ((es'.filter fun e => !seen.contains e.born).filter (·.born < since)) ∧ ((leftE since seen es).2 = false → (es'.filter fun e => !seen.contains e.born).filter (·.born ≥ since) = [])
  | [], es', h => by
    rw [h.nil]; exact ⟨⟨rfl, fun i e he => by simp [leftE] at he⟩, fun _ => rfl⟩
  | e :: es, es', h => by
    obtain ⟨e', l, rfl, h1, h2, h3, h4⟩ := h.cons
    obtain ⟨g1, g2⟩ := leftE_sound (since := since) (seen := seen) es l h4
    unfold leftE
    cases hm : memN seen e.born with
    | true =>
      have hc : seen.contains e'.born = true := by rw [h1]; simpa using (memN_iff seen e.born).1 hm
      simp only [List.filter_cons, hc, Bool.not_true, Bool.false_eq_true, if_false]
      exact ⟨g1, g2⟩
    | false =>
      have hc : seen.contains e'.born = false := by
        rw [h1]
        cases hx : seen.contains e.born with
        | false => rfl
        | true => rw [(memN_iff seen e.born).2 (by simpa using hx)] at hm; cases hm
      cases hl : leftE since seen es with
      | mk rr y =>
        rw [hl] at g1 g2
        simp only [List.filter_cons, hc, Bool.not_false, if_true]
        cases hb : Nat.blt e.born since with
        | true =>
          have hb := Nat.le_of_ble_eq_true hb
          have hlt : e'.born < since := by rw [h1]; exact hb
          have hge : ¬ e'.born ≥ since := by omega
          simp only [List.filter_cons, hlt, hge, decide_true, decide_false, if_true, Bool.false_eq_true, if_false]
          exact ⟨ER.mk_cons h1 h2 h3 g1, g2⟩
        | false =>
          have hlt : ¬ e'.born < since := by
            rw [h1]; intro hx
            rw [show Nat.blt e.born since = true from Nat.ble_eq_true_of_le hx] at hb; cases hb
          simp only [List.filter_cons, hlt, decide_false, Bool.false_eq_true, if_false]
          exact ⟨g1, fun h => by cases h⟩

theorem allGe_sound {V : Vn} {last : Nat} : ∀ (es : List Ent) (es' : List MapEntry), ER V es es' → es'.all (·.born ≥ last) = allGe last es
  | [], es', h => by rw [h.nil]; rfl
  | e :: es, es', h => by
    obtain ⟨e', l, rfl, h1, h2, h3, h4⟩ := h.cons
    unfold allGe
    rw [List.all_cons, allGe_sound es l h4, h1]
    cases hb : Nat.ble last e.born with
    | true => have := Nat.le_of_ble_eq_true hb; simp [this]
    | false => have := ble_false hb; simp [this]
theorem gonE_sound {V : Vn} {seen : List Nat} {last : Nat} {es : List Ent} {es' : List MapEntry} (h : ER V es es') : (!seen.toArray.isEmpty && !es'.toArray.isEmpty && es'.toArray.all (·.born ≥ last)) = gonE seen last es := by
  unfold gonE
  cases seen with
  | nil => rfl
  | cons x l =>
    cases es with
    | nil => rw [h.nil]; rfl
    | cons e es =>
      have := allGe_sound (last := last) _ _ h
      obtain ⟨e', l', rfl, _⟩ := h.cons
      simp only [List.all_toArray]
      rw [this]; rfl

theorem nextX_inv {s : St} {rb : Nat} {k : A → St → Option β} {r : β} (h : nextX s rb k = some r) :
    ∃ a s', k a s' = some r ∧ ∀ V w x (k0 : M) (k1 : Value → Value → M), Rel V s w → V.ρ rb = some x →
      (∀ V' w', Mv V s w V' s' w' → conc V' a = some (.tuple #[.bool false]) → k0 w') → (∀ V' key val w', Mv V s w V' s' w' → conc V' a = some (.tuple #[.bool true, key, val]) → k1 key val w') → nxt x k0 k1 w := by
  unfold nextX at h
  split at h
  · rename_i hB
    refine ⟨_, s, h, fun V w x k0 k1 hR hx h0 h1 => .inl ⟨?_, h0 V w (Mv.refl hR rfl (Rest.refl w)) (by simp [conc, concL])⟩⟩
    obtain ⟨x', hx', m', g1, g2⟩ := hR.blk _ _ hB
    rw [hx] at hx'; obtain rfl := Option.some.inj hx'
    have g2 : m' = none := g2
    subst g2; exact g1
  · rename_i m since seen last hB
    split at h
    · rename_i es c hM
      have base : ∀ V w x, Rel V s w → V.ρ rb = some x → ∃ y es', V.ρ m = some y ∧ w.heap[x]? = some (.mapIter (some y) since seen.toArray last) ∧ w.heap[y]? = some (.map es'.toArray c) ∧ ER V es es' := by
        intro V w x hR hx
        obtain ⟨x', hx', m', g1, y, g2, rfl⟩ := hR.blk _ _ hB
        rw [hx] at hx'; obtain rfl := Option.some.inj hx'
        obtain ⟨y', hy', es', g3, g4, g5⟩ := hR.blk _ _ hM
        rw [g2] at hy'; obtain rfl := Option.some.inj hy'
        exact ⟨y, es', g2, g1, g3, g4, g5⟩
      have nl : ∀ {V : Vn} {es' : List MapEntry} {os : List Ent}, ER V es es' → leftE since seen es = (os, false) → ∃ os', ER V os os' ∧ (nxtL es'.toArray since seen.toArray).toList = (if os'.isEmpty then [none] else []) ++ os'.map some := by
        intro V es' os he hl
        obtain ⟨g1, g2⟩ := leftE_sound (since := since) (seen := seen) es es' he
        rw [hl] at g1 g2
        refine ⟨_, g1, ?_⟩
        unfold nxtL
        have e0 : (es'.toArray.filter fun e => !seen.toArray.contains e.born) = (es'.filter fun e => !seen.contains e.born).toArray := by
          rw [List.filter_toArray]
          congr 1
          apply List.filter_congr; intro e _; simp
        simp only [e0, List.filter_toArray]
        rw [g2 rfl]
        generalize (es'.filter fun e => !seen.contains e.born).filter (·.born < since) = L
        cases L <;> simp
      split at h
      · rename_i hg hl
        refine ⟨_, s, h, fun V w x k0 k1 hR hx h0 h1 => .inr ?_⟩
        obtain ⟨y, es', g0, g1, g2, g3⟩ := base V w x hR hx
        refine ⟨y, since, seen.toArray, last, es'.toArray, c, g1, g2, by rw [gonE_sound g3]; exact hg, fun z hz d => ?_⟩
        obtain ⟨os', g4, g5⟩ := nl g3 hl
        rw [g4.nil] at g5
        rw [g5] at hz
        simp at hz; subst hz
        exact h0 V _ (Mv.refl hR rfl (Rest.of_heap rfl rfl rfl rfl)) (by simp [conc, concL])
      · rename_i e hg hl
        have h := snocK_inv _ _ _ _ h
        obtain ⟨s', h, hget, hiv, hnb, hnc⟩ := setBK_inv h
        refine ⟨_, s', h, fun V w x k0 k1 hR hx h0 h1 => .inr ?_⟩
        obtain ⟨y, es', g0, g1, g2, g3⟩ := base V w x hR hx
        refine ⟨y, since, seen.toArray, last, es'.toArray, c, g1, g2, by rw [gonE_sound g3]; exact hg, fun z hz d => ?_⟩
        obtain ⟨os', g4, g5⟩ := nl g3 hl
        obtain ⟨e', l', rfl, f1, f2, f3, f4⟩ := g4.cons
        rw [f4.nil] at g5
        rw [g5] at hz
        simp at hz; subst hz
        refine h1 V _ _ _ ?_ (by simp [conc, concL, f2, f3])
        have hR' : Rel V s { w with drawn := d } := (Mv.refl hR (w' := { w with drawn := d }) rfl (Rest.of_heap rfl rfl rfl rfl)).rel
        refine (Mv.refl hR (w' := { w with drawn := d }) rfl (Rest.of_heap rfl rfl rfl rfl)).trans ?_
        refine mv_setO hR' hB hx hget hiv hnb hnc (w := { w with drawn := d }) g1 (by simp) (by simp) ⟨some y, ?_, y, g0, rfl⟩
        rw [setO_self (w := { w with drawn := d }) g1]
        simp [f1]
      · cases h
    · cases h
  · cases h

theorem findB_sound {V : Vn} {b : Nat} : ∀ (es : List Ent) (es' : List MapEntry) (e : Ent), ER V es es' → findB b es = some e → ∃ e', es'.find? (fun e => e.born == b) = some e' ∧ conc V e.key = some e'.key ∧ conc V e.val = some e'.val
  | [], es', e, h, he => by cases he
  | x :: es, es', e, h, he => by
    obtain ⟨e', l, rfl, h1, h2, h3, h4⟩ := h.cons
    unfold findB at he
    split at he
    · rename_i hb
      have hb := beq_iff hb
      obtain rfl := Option.some.inj he
      exact ⟨e', by simp [h1, hb], h2, h3⟩
    · rename_i hb
      have hb : x.born ≠ b := fun hx => by rw [hx, Nat.beq_refl] at hb; cases hb
      obtain ⟨e2, g1, g2, g3⟩ := findB_sound es l e h4 he
      exact ⟨e2, by simp [h1, hb, g1], g2, g3⟩

theorem entryX_inv {s : St} {rb : Nat} {k : A → Option β} {r : β} (h : entryX s rb k = some r) :
    ∃ a, k a = some r ∧ ∀ V w x (K : Value → Value → M), Rel V s w → V.ρ rb = some x → (∀ key val, conc V a = some (.tuple #[key, val]) → K key val w) → entM x K w := by
  unfold entryX at h
  split at h
  · rename_i m since seen stepped hB
    split at h
    · rename_i es c hM
      obtain ⟨h1, h⟩ := ck_inv h
      obtain ⟨b, hb, h⟩ := oK_inv h
      obtain ⟨e, he, h⟩ := oK_inv h
      refine ⟨_, h, fun V w x K hR hx hK => ?_⟩
      obtain ⟨x', hx', m', g1, y, g2, rfl⟩ := hR.blk _ _ hB
      rw [hx] at hx'; obtain rfl := Option.some.inj hx'
      obtain ⟨y', hy', es', g3, g4⟩ := hR.blk _ _ hM
      rw [g2] at hy'; obtain rfl := Option.some.inj hy'
      obtain ⟨e', f1, f2, f3⟩ := findB_sound es es' e g4 he
      rw [lastN_eq] at hb
      exact ⟨y, since, seen.toArray, stepped, es'.toArray, c, b, e', g1, by simpa using hb, g3, beq_iff h1, by simpa using f1, hK _ _ (by simp [conc, concL, f2, f3])⟩
    · cases h
  · cases h

/-! all of them -/
theorem xE_inv {call : CallX β} (hcall : CallOk P call) {op : Op} {ty : TypeId} {E : Tr A} {s : St} {k : A → St → Option β} {r : β} (h : xE P call op ty E s k = some r) : ∃ a s', k a s' = some r ∧ SE P op ty E s a s' := by
  have callv : ∀ {f : Operand} {args : Array Operand} {tys : Array TypeId}, (∀ g, f ≠ .func g) → eCallv P call ty f args E s k = some r → ∃ a s', k a s' = some r ∧ SE P (.call ⟨.value f, args, tys⟩) ty E s a s' := by
    intro f args tys hf h
    obtain ⟨fv, h, hfv⟩ := evK_inv h
    obtain ⟨as, h, has⟩ := evsK_inv _ _ _ h
    unfold callvX at h
    split at h
    · obtain ⟨hb, h⟩ := ck_inv h
      have h := appK_inv _ _ _ h
      have h := appK_inv _ _ _ h
      obtain ⟨a, s', h, hc⟩ := hcall _ _ _ _ _ h
      obtain ⟨ht, h⟩ := ck_inv h
      refine ⟨a, s', h, fun V e w ks K he hR hK => ?_⟩
      obtain ⟨v, h1, h2⟩ := hfv V e he
      obtain ⟨vs, h3, h4⟩ := has V e he
      simp only [conc, Option.bind_eq_some_iff, Option.map_eq_some_iff] at h1
      obtain ⟨x, hx, y, hy, rfl⟩ := h1
      have key : (w1 (evo e f) fun fv => ws (evs (evo e) args.toList) fun args w => clv P fv args (fun v => asTy P ty v (kpw ks K w)) w) w := by
        refine w1_some h2 (ws_some h4 ⟨_, x.toArray, y.toArray, rfl, hb, ?_⟩)
        refine cl_mono (hc V w (x ++ vs ++ y) hR (by rw [List.append_assoc]; exact concL_append hx (concL_append h3 hy))) ?_
        rintro v w' hr ⟨V', hm, hv⟩
        exact okTy_sound ht hv (kpw_mk (hK V' v w' hm hv))
      cases f with
      | func g => exact absurd rfl (hf g)
      | tmp t => exact key
      | const u => exact key
      | global g => exact key
    · cases h
  unfold xE at h
  split at h
  · exact sE_alloc h
  · exact sE_box h
  · exact sE_bslice h
  · exact sE_mslice h
  · exact sE_map0 h
  · exact sE_map1 h
  · exact sE_store h
  · exact sE_mup h (.inl rfl)
  · exact sE_mup h (.inr rfl)
  · obtain ⟨a, h, ha⟩ := evK_inv h
    unfold rangeX at h
    split at h
    · rename_i hu
      obtain ⟨s', h, hs⟩ := newMap (o := .mapIter none 0 #[] 0) (a := fun b => .ptr b 0) (fun c T fz h => by cases h) h
      refine ⟨_, s', h, fun V e w ks K he hR hK => ?_⟩
      obtain ⟨v, h1, h2⟩ := ha V e he
      have := lit_conc h1; subst this
      refine w1_some h2 ?_
      simp only [hu]
      exact kpw_mk (hK _ _ _ (hs V w hR ⟨none, by show (w.heap.push _)[w.heap.size]? = _; simp, rfl⟩) (conc_ptr (x := w.heap.size) (by simp [Vn.bind])))
    · rename_i hu
      split at h
      · rename_i es c hM
        rename_i m _
        obtain ⟨s', h, hget, hiv, hnb, hnc⟩ := newK_inv h
        refine ⟨_, s', h, fun V e w ks K he hR hK => ?_⟩
        obtain ⟨v, h1, h2⟩ := ha V e he
        obtain ⟨y, hy, es', g1, g2⟩ := hR.blk _ _ hM
        simp only [conc, hy, Option.map_some, Option.some.injEq] at h1
        subst h1
        refine w1_some h2 ?_
        simp only [hu]
        refine ⟨es'.toArray, c, g1, kpw_mk (hK _ _ _ (mv_new hR (o := .mapIter (some y) c #[] c) hget hiv hnb hnc rfl (Rest.alloc _ _) (fun c T fz h => by cases h) ⟨some y, by show (w.heap.push _)[w.heap.size]? = _; simp, y, ?_, rfl⟩) (conc_ptr (x := w.heap.size) (by simp [Vn.bind])))⟩
        exact (Vn.le_bind (hR.nb _ (Nat.le_refl _))).ρ _ _ hy
      · cases h
    · cases h
  · obtain ⟨a, h, ha⟩ := evK_inv h
    split at h
    · rename_i hu
      split at h
      · rename_i hts
        obtain ⟨a, s', h, hn⟩ := nextX_inv h
        refine ⟨_, s', h, fun V e w ks K he hR hK => ?_⟩
        obtain ⟨v, h1, h2⟩ := ha V e he
        simp only [conc, Option.map_eq_some_iff] at h1
        obtain ⟨x, hx, rfl⟩ := h1
        refine w1_some h2 ?_
        simp only [hu, hts]
        exact hn V w x _ _ hR hx (fun V' w' hm hc => kpw_mk (hK V' _ w' hm hc)) (fun V' key val w' hm hc => kpw_mk (hK V' _ w' hm hc))
      · cases h
    · cases h
  · obtain ⟨a, h, ha⟩ := evK_inv h
    split at h
    · obtain ⟨a, h, hn⟩ := entryX_inv h
      refine ⟨_, s, h, fun V e w ks K he hR hK => ?_⟩
      obtain ⟨v, h1, h2⟩ := ha V e he
      simp only [conc, Option.map_eq_some_iff] at h1
      obtain ⟨x, hx, rfl⟩ := h1
      refine w1_some h2 ?_
      exact hn V w x _ hR hx (fun key val hc => kpw_mk (hK V _ w (Mv.refl hR rfl (Rest.refl w)) hc))
    · cases h
  · obtain ⟨hb, h⟩ := ck_inv h
    obtain ⟨as, h, has⟩ := evsK_inv _ _ _ h
    obtain ⟨a, s', h, hc⟩ := hcall _ _ _ _ _ h
    obtain ⟨ht, h⟩ := ck_inv h
    refine ⟨a, s', h, fun V e w ks K he hR hK => ?_⟩
    obtain ⟨vs, h3, h4⟩ := has V e he
    simp only [opE, hb]
    refine ws_some h4 (cl_mono (hc V w vs hR h3) ?_)
    rintro v w' hr ⟨V', hm, hv⟩
    exact okTy_sound ht hv (kpw_mk (hK V' v w' hm hv))
  · rename_i f args tys hf
    exact callv (fun g hg => hf g hg) h
  · obtain ⟨as, h, has⟩ := evsK_inv _ _ _ h
    obtain ⟨a, s', h, hb⟩ := bltnX_inv h
    refine ⟨a, s', h, fun V e w ks K he hR hK => ?_⟩
    obtain ⟨vs, h3, h4⟩ := has V e he
    exact ws_some h4 (hb V w vs ks K hR h3 hK)
  · cases h

end Go.XC
