/- XS: the executor is sound: regions. -/
import Derived.Test.YtlcaelckplknnaaGreatDoorXS8
set_option linter.unusedVariables false
set_option linter.unusedSimpArgs false
namespace Go.XC
open Go Go.SX
variable {β : Type} {P : Program}

/-! environments -/
theorem lk_rm_ne {l : List Nat} : ∀ (e : Env) (t : Nat), t ∉ l → lk (rm l e) t = lk e t
  | [], t, h => rfl
  | (d, v) :: e, t, h => by
    simp only [rm]
    cases hm : memN l d with
    | true =>
      simp only []
      rw [lk_rm_ne e t h, lk_cons]
      have : d ≠ t := fun hdt => h (hdt ▸ (memN_iff l d).1 hm)
      simp [this]
    | false =>
      simp only []
      rw [lk_cons, lk_cons, lk_rm_ne e t h]
theorem lk_put {d : Option Nat} {v : Value} {e : Env} {t : Nat} : lk (put d v e) t = if d = some t then some v else lk e t := by
  cases d with
  | none => simp [SX.put]
  | some d => simp only [SX.put, lk_cons, Option.some.injEq]
theorem lk_drop1 {d : Option Nat} {e : Env} {t : Nat} (h : d ≠ some t) : lk (drop1 d e) t = lk e t := by
  cases d with
  | none => rfl
  | some d => simp only [SX.drop1, lk_cons]; rw [if_neg (fun hx => h (by rw [hx]))]

theorem putX_inv {d : Option Nat} {a : A} {E : Tr A} {k : Tr A → Option β} {r : β} (h : putX d a E k = some r) :
    ∃ E', k E' = some r ∧ (∀ t, E'.get t = if d = some t then some a else E.get t) ∧ ∀ V e v, ERel V E e → conc V a = some v → ERel V E' (put d v e) := by
  have key : ∀ E', (∀ t, E'.get t = if d = some t then some a else E.get t) → ∀ V e v, ERel V E e → conc V a = some v → ERel V E' (put d v e) := by
    intro E' hg V e v he hv t b hb
    rw [hg] at hb
    rw [lk_put]
    by_cases hd : d = some t
    · rw [if_pos hd] at hb ⊢
      obtain rfl := Option.some.inj hb
      exact ⟨v, hv, rfl⟩
    · rw [if_neg hd] at hb ⊢
      exact he t b hb
  cases d with
  | none => exact ⟨E, h, fun t => by simp, key E (fun t => by simp)⟩
  | some d =>
    obtain ⟨E', hk, hg⟩ := setK_inv _ _ _ _ _ _ h
    have : ∀ t, E'.get t = if some d = some t then some a else E.get t := fun t => by
      rw [hg]; by_cases h : t = d
      · subst h; simp
      · simp [h, Ne.symm h]
    exact ⟨E', hk, this, key E' this⟩
theorem dropE_inv {d : Option Nat} {E : Tr A} {k : Tr A → Option β} {r : β} (h : dropE d E k = some r) :
    ∃ E', k E' = some r ∧ (∀ t, E'.get t = if d = some t then some (.tup []) else E.get t) ∧ ∀ V e, ERel V E e → ERel V E' (drop1 d e) := by
  have key : ∀ E', (∀ t, E'.get t = if d = some t then some (.tup []) else E.get t) → ∀ V e, ERel V E e → ERel V E' (drop1 d e) := by
    intro E' hg V e he t b hb
    rw [hg] at hb
    by_cases hd : d = some t
    · rw [if_pos hd] at hb
      obtain rfl := Option.some.inj hb
      subst hd
      exact ⟨.tuple #[], by simp [conc, concL], by simp only [SX.drop1, lk_cons, if_true]⟩
    · rw [if_neg hd] at hb
      rw [lk_drop1 hd]
      exact he t b hb
  cases d with
  | none => exact ⟨E, h, fun t => by simp, key E (fun t => by simp)⟩
  | some d =>
    obtain ⟨E', hk, hg⟩ := setK_inv _ _ _ _ _ _ h
    have : ∀ t, E'.get t = if some d = some t then some (.tup []) else E.get t := fun t => by
      rw [hg]; by_cases h : t = d
      · subst h; simp
      · simp [h, Ne.symm h]
    exact ⟨E', hk, this, key E' this⟩

/-- whether an operation is done -/
theorem gdX_inv {ops : List Oper} {o : Oper} {E : Tr A} {run skip : Option β} {r : β} (h : gdX ops o E run skip = some r) :
    (run = some r ∧ ∀ V e (R S : Env → M) w, ERel V E e → (∀ e1, (∀ t, lk e1 t = lk e t) → R e1 w) → gd ops o e R S w) ∨
    (skip = some r ∧ ∀ V e (R S : Env → M) w, ERel V E e → (∀ e1, (∀ t, lk e1 t = lk e t) → S e1 w) → gd ops o e R S w) := by
  unfold gdX at h
  split at h
  · rename_i hg
    exact .inl ⟨h, fun V e R S w he hR => by unfold gd; rw [hg]; exact hR e (fun _ => rfl)⟩
  · rename_i j want hg
    split at h
    · rename_i oj hj
      rw [at?_eq] at hj
      split at h
      · rename_i t hd
        have same : ∀ {e : Env} {b : Bool}, lk e t = some (.bool b) → ∀ t', lk ((t, .bool b) :: e) t' = lk e t' := by
          intro e b hl t'
          rw [lk_cons]
          by_cases htt : t = t'
          · subst htt; simp [hl]
          · simp [htt]
        have opn : ∀ {V : Vn} {e : Env} {b : Bool}, ERel V E e → E.get t = some (.lit (.bool b)) → lk e t = some (.bool b) := by
          intro V e b he hb
          obtain ⟨v, h1, h2⟩ := he _ _ hb
          have := lit_conc h1; subst this; exact h2
        split at h
        · rename_i hb
          cases want with
          | true => exact .inl ⟨h, fun V e R S w he hR => by
              have hl := opn he hb
              unfold gd; rw [hg]; simp only [hj, hd, hl, br]
              exact hR _ (same hl)⟩
          | false => exact .inr ⟨h, fun V e R S w he hS => by
              have hl := opn he hb
              unfold gd; rw [hg]; simp only [hj, hd, hl, br]
              exact hS _ (same hl)⟩
        · rename_i hb
          cases want with
          | true => exact .inr ⟨h, fun V e R S w he hS => by
              have hl := opn he hb
              unfold gd; rw [hg]; simp only [hj, hd, hl, br]
              exact hS _ (same hl)⟩
          | false => exact .inl ⟨h, fun V e R S w he hR => by
              have hl := opn he hb
              unfold gd; rw [hg]; simp only [hj, hd, hl, br]
              exact hR _ (same hl)⟩
        · rename_i hb
          exact .inr ⟨h, fun V e R S w he hS => by
            obtain ⟨v, h1, h2⟩ := he _ _ hb
            simp [conc, concL] at h1; subst h1
            unfold gd; rw [hg]; simp only [hj, hd, h2]
            exact hS e (fun _ => rfl)⟩
        · cases h
      · cases h
    · cases h
theorem ERel.of_lk {V : Vn} {E : Tr A} {e e1 : Env} (he : ERel V E e) (h : ∀ t, lk e1 t = lk e t) : ERel V E e1 := fun t a ha => by
  rw [h]; exact he t a ha

theorem opX_inv {call : CallX β} (hcall : CallOk P call) {o : Oper} {E : Tr A} {s : St} {k : A → St → Option β} {r : β} (h : opX P call o E s k = some r) :
    ∃ a s', k a s' = some r ∧ ∀ V e w (K : Value → M), ERel V E e → Rel V s w → (∀ V' v w', Mv V s w V' s' w' → conc V' a = some v → K v w') → opM P o e [] K w := by
  unfold opX at h
  split at h
  · rename_i hq
    obtain ⟨a, h, ha⟩ := xQ_inv h
    refine ⟨a, s, h, fun V e w K he hR hK => ?_⟩
    unfold opM; simp only [hq]
    exact ha V e w K he hR (fun v hv => hK V v w (Mv.refl hR rfl (Rest.refl w)) hv)
  · rename_i hq
    obtain ⟨a, s', h, ha⟩ := xE_inv hcall h
    refine ⟨a, s', h, fun V e w K he hR hK => ?_⟩
    unfold opM; simp only [hq]
    exact ha V e w [] K he hR (fun V' v w' hm hv => ⟨fun r hr => by simp at hr, hK V' v w' hm hv⟩)

/-- what a region comes to -/
def SR (E : Tr A) (s : St) (E' : Tr A) (s' : St) (T : Env → (Env → M) → M) : Prop := ∀ V e w (K : Env → M), ERel V E e → Rel V s w → (∀ V' e' w', Mv V s w V' s' w' → ERel V' E' e' → K e' w') → T e K w

theorem regX_inv {call : CallX β} (hcall : CallOk P call) {ops : List Oper} : ∀ (l : List Oper) (E : Tr A) (s : St) (k : Tr A → St → Option β) (r : β), regX P call ops l E s k = some r →
    ∃ E' s', k E' s' = some r ∧ SR E s E' s' (regS P ops l)
  | [], E, s, k, r, h => ⟨E, s, h, fun V e w K he hR hK => hK V e w (Mv.refl hR rfl (Rest.refl w)) he⟩
  | o :: l, E, s, k, r, h => by
    have h' : gdX ops o E (opX P call o E s fun a s => putX o.dst a E fun E => regX P call ops l E s k) (dropE o.dst E fun E => regX P call ops l E s k) = some r := h
    rcases gdX_inv h' with ⟨h, hg⟩ | ⟨h, hg⟩
    · obtain ⟨a, s1, h, ho⟩ := opX_inv hcall h
      obtain ⟨E1, h, _, hE⟩ := putX_inv h
      obtain ⟨E', s', h, hS⟩ := regX_inv hcall l E1 s1 k r h
      refine ⟨E', s', h, fun V e w K he hR hK => ?_⟩
      refine hg V e _ _ w he fun e1 he1 => ?_
      refine ho V e1 w _ (he.of_lk he1) hR fun V1 v w1 hm hv => ?_
      exact hS V1 _ w1 K (hE V1 e1 v ((he.of_lk he1).mono hm.ext) hv) hm.rel (fun V' e' w' hm' he' => hK V' e' w' (hm.trans hm') he')
    · obtain ⟨E1, h, _, hE⟩ := dropE_inv h
      obtain ⟨E', s', h, hS⟩ := regX_inv hcall l E1 s k r h
      refine ⟨E', s', h, fun V e w K he hR hK => ?_⟩
      refine hg V e _ _ w he fun e1 he1 => ?_
      exact hS V _ w K (hE V e1 (he.of_lk he1)) hR hK

/-! reads -/
def RdOk (V : Vn) : RA → Rd → Prop
  | .cells b o n, .cells a m => ∃ x, V.ρ b = some x ∧ a = ⟨x, o, none⟩ ∧ m = n
  | .obj b, .obj x => V.ρ b = some x
  | _, _ => False
def RdsOk (V : Vn) : List RA → List Rd → Prop
  | [], [] => True
  | a :: l, r :: m => RdOk V a r ∧ RdsOk V l m
  | _, _ => False
theorem RdOk.mono {V V' : Vn} (h : V.le V') : ∀ {a : RA} {r : Rd}, RdOk V a r → RdOk V' a r
  | .cells b o n, .cells a m, ⟨x, h1, h2⟩ => ⟨x, h.ρ _ _ h1, h2⟩
  | .obj b, .obj x, h1 => h.ρ _ _ h1
theorem RdsOk.mono {V V' : Vn} (h : V.le V') : ∀ {l : List RA} {m : List Rd}, RdsOk V l m → RdsOk V' l m
  | [], [], _ => trivial
  | a :: l, r :: m, ⟨h1, h2⟩ => ⟨h1.mono h, RdsOk.mono h h2⟩
theorem RdsOk.append {V : Vn} : ∀ {l l' : List RA} {m m' : List Rd}, RdsOk V l m → RdsOk V l' m' → RdsOk V (l ++ l') (m ++ m')
  | [], l', [], m', _, h => h
  | a :: l, l', r :: m, m', ⟨h1, h2⟩, h => ⟨h1, RdsOk.append h2 h⟩

theorem sameA_sound {x y : A} (h : sameA x y = true) : x = y := by
  unfold sameA at h
  split at h <;> (try simp only [Bool.and_eq_true] at h)
  · obtain ⟨h1, h2⟩ := h
    have := beqK_eq h1; have := eqI_iff'.1 h2; subst_vars; rfl
  · rename_i x y
    have : x = y := by simpa [eqBl] using h
    subst this; rfl
  · rfl
  · obtain ⟨h1, h2⟩ := h
    have := beq_iff h1; have := beq_iff h2; subst_vars; rfl
  · rfl
  · rfl
  · obtain ⟨h1, h2⟩ := h
    have := beqK_eq h1; have := beq_iff h2; subst_vars; rfl
  · obtain ⟨h1, h2⟩ := h
    have := beq_iff h1; have := beq_iff h2; subst_vars; rfl
  · obtain ⟨⟨⟨h1, h2⟩, h3⟩, h4⟩ := h
    have := beq_iff h1; have := beq_iff h2; have := beq_iff h3; have := beq_iff h4; subst_vars; rfl
  · obtain ⟨⟨⟨h1, h2⟩, h3⟩, h4⟩ := h
    have := beq_iff h1; have := beq_iff h2; have := beq_iff h3; have := beq_iff h4; subst_vars; rfl
  · have := beq_iff h; subst this; rfl
  · cases h
theorem sameCs_sound {s s' : St} {b : Nat} : ∀ (n i : Nat), sameCs s s' b i n = true → ∀ j, j < n → ∃ B B' x, s.h.get b = some B ∧ s'.h.get b = some B' ∧ B.rd (i + j) = some x ∧ B'.rd (i + j) = some x
  | 0, i, h, j, hj => by omega
  | n + 1, i, h, j, hj => by
    unfold sameCs at h
    split at h
    · rename_i B B' h1 h2
      split at h
      · rename_i x y h3 h4
        split at h
        · rename_i h5
          have := sameA_sound h5; subst this
          cases j with
          | zero => exact ⟨B, B', x, h1, h2, h3, h4⟩
          | succ j =>
            have := sameCs_sound n (Nat.succ i) h j (by omega)
            rw [show i + (j + 1) = Nat.succ i + j by omega]; exact this
        · cases h
      · cases h
    · cases h
theorem sameEs_sound : ∀ (l m : List Ent), sameEs l m = true → l = m
  | [], [], _ => rfl
  | e :: l, e' :: m, h => by
    unfold sameEs at h
    split at h
    · rename_i h1
      simp only [Bool.and_eq_true] at h1
      obtain ⟨⟨h1, h2⟩, h3⟩ := h1
      have h1 := sameA_sound h1; have h2 := sameA_sound h2; have h3 := beq_iff h3
      have h4 := sameEs_sound l m h
      cases e; cases e'; simp_all
    · cases h
  | [], _ :: _, h => by cases h
  | _ :: _, [], h => by cases h
theorem ER.unique {V : Vn} : ∀ {es : List Ent} {a b : List MapEntry}, ER V es a → ER V es b → a = b
  | [], a, b, h, g => by rw [h.nil, g.nil]
  | e :: es, a, b, h, g => by
    obtain ⟨x, l, rfl, h1, h2, h3, h4⟩ := h.cons
    obtain ⟨y, m, rfl, g1, g2, g3, g4⟩ := g.cons
    have : x = y := by
      cases x; cases y
      simp only [] at *
      rw [h2] at g2; rw [h3] at g3
      simp only [Option.some.injEq] at g2 g3
      subst g2 g3; rw [h1, g1]
    rw [this, ER.unique h4 g4]
theorem sameR_sound {s s' : St} {V V' : Vn} {w w' : World} (hR : Rel V s w) (hR' : Rel V' s' w') (hle : V.le V') : ∀ (l : List RA) (m : List Rd), sameR s s' l = true → RdsOk V l m → ∀ r ∈ m, r.same w w'
  | [], [], _, _, r, hr => by cases hr
  | .cells b o n :: l, .cells a k :: m, h, ⟨⟨x, hx, ha, hk⟩, h2⟩, r, hr => by
    subst ha hk
    unfold sameR at h
    split at h
    · rename_i h1
      cases hr with
      | tail _ hr => exact sameR_sound hR hR' hle l m h h2 r hr
      | head =>
        intro i hi
        obtain ⟨B, B', y, g1, g2, g3, g4⟩ := sameCs_sound _ _ h1 i hi
        rw [add_mk]
        obtain ⟨v, e1, e2⟩ := rd_sound hR g1 g3 hx
        obtain ⟨v', e3, e4⟩ := rd_sound hR' g2 g4 (hle.ρ _ _ hx)
        rw [conc_mono hle _ _ e1] at e3
        rw [e2, e4, Option.some.inj e3]
    · cases h
  | .obj b :: l, .obj x :: m, h, ⟨hx, h2⟩, r, hr => by
    unfold sameR at h
    split at h
    · rename_i es c es' c' g1 g2
      split at h
      · rename_i h1
        cases hr with
        | tail _ hr => exact sameR_sound hR hR' hle l m h h2 r hr
        | head =>
          simp only [Bool.and_eq_true] at h1
          have e1 := beq_iff h1.1; have e2 := sameEs_sound _ _ h1.2
          subst e1 e2
          have hx : V.ρ b = some x := hx
          obtain ⟨y, f1, l1, f2, f3⟩ := hR.blk _ _ g1
          obtain ⟨y', f1', l2, f2', f3'⟩ := hR'.blk _ _ g2
          rw [hx] at f1; obtain rfl := Option.some.inj f1
          rw [hle.ρ _ _ hx] at f1'; obtain rfl := Option.some.inj f1'
          have : l2 = l1 := ER.unique f3' (ER.mono hle f3)
          subst this
          show w'.heap[x]? = w.heap[x]?
          rw [f2, f2']
      · cases h
    · cases h

theorem lookX_ents {s : St} {T : TypeId} {m key : A} {ok : Bool} {k : A → Option β} {r : β} (h : lookX P s T m key ok k = some r) : ∃ es, entsX s m = some es := by
  unfold lookX at h
  split at h
  · obtain ⟨_, _, h⟩ := oK_inv h
    obtain ⟨_, _, h⟩ := oK_inv h
    obtain ⟨es, hes, _⟩ := oK_inv h
    exact ⟨es, hes⟩
  · cases h
theorem reads_rel {op : Op} {E : Tr A} {s : St} {k : A → Option β} {r : β} (h : xQ P op E s k = some r) {V : Vn} {e : Env} (he : ERel V E e) : RdsOk V (readsX P op E) (readsQ P op (evo e)) := by
  cases op with
  | load T x =>
    cases x with
    | tmp t =>
      obtain ⟨a, ha, h⟩ := oK_inv (show oK (E.get t) (fun a => match a with | .ptr b o => loadX P s T b o k | _ => none) = some r from h)
      obtain ⟨v, h1, h2⟩ := he t a ha
      cases a <;> first | (cases h; done) | skip
      rename_i b o
      simp only [conc, Option.map_eq_some_iff] at h1
      obtain ⟨x, hx, rfl⟩ := h1
      simp only [readsX, ha, readsQ, evo, h2]
      cases hg : isAggB P T with
      | none => exact ⟨⟨x, hx, rfl, rfl⟩, trivial⟩
      | some g =>
        cases g with
        | false => exact ⟨⟨x, hx, rfl, rfl⟩, trivial⟩
        | true =>
          cases hs : sizeB P T with
          | none => trivial
          | some n => exact ⟨⟨x, hx, rfl, rfl⟩, trivial⟩
    | const u =>
      obtain ⟨a, h, ha⟩ := ofVK_inv (show ofVK u (fun a => match a with | .ptr b o => loadX P s T b o k | _ => none) = some r from h)
      have hv := ha ⟨fun _ => none, fun _ => none, fun _ => none⟩
      cases a <;> first | (cases h; done) | skip
      simp [conc] at hv
    | func f => cases h
    | global g => cases h
  | lookup T m i ok =>
    cases m with
    | tmp t =>
      simp only [readsX]
      have h' : evK E (.tmp t) (fun m => evK E i fun key => lookX P s T m key ok k) = some r := h
      obtain ⟨a, ha, h⟩ := oK_inv (show oK (E.get t) (fun m => evK E i fun key => lookX P s T m key ok k) = some r from h')
      obtain ⟨v, h1, h2⟩ := he t a ha
      obtain ⟨key, h, hkey⟩ := evK_inv h
      have hent := lookX_ents h
      obtain ⟨es, hes⟩ := hent
      unfold entsX at hes
      split at hes
      · have := lit_conc h1; subst this
        simp only [ha, readsQ, evo, h2]
        trivial
      · rename_i b
        simp only [conc, Option.map_eq_some_iff] at h1
        obtain ⟨x, hx, rfl⟩ := h1
        simp only [ha, readsQ, evo, h2]
        exact ⟨hx, trivial⟩
      · cases hes
    | const u =>
      obtain ⟨a, h, ha⟩ := ofVK_inv (show ofVK u (fun m => evK E i fun key => lookX P s T m key ok k) = some r from h)
      have hu : ∀ x, u ≠ .map (some x) := by
        intro x hx
        have hv := ha ⟨fun _ => none, fun _ => none, fun _ => none⟩
        obtain ⟨key, h, _⟩ := evK_inv h
        unfold lookX at h
        split at h
        · obtain ⟨_, _, h⟩ := oK_inv h
          obtain ⟨_, _, h⟩ := oK_inv h
          obtain ⟨es, hes, _⟩ := oK_inv h
          unfold entsX at hes
          split at hes
          · have := lit_conc hv; rw [hx] at this; cases this
          · simp [conc] at hv
          · cases hes
        · cases h
      simp only [readsX, readsQ, evo]
      cases u <;> first | trivial | skip
      rename_i q
      cases q with
      | none => trivial
      | some x => exact absurd rfl (hu x)
    | func f =>
      simp only [readsX, readsQ, evo]; trivial
    | global g => cases h
  | _ => trivial

end Go.XC
