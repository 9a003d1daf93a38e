/- XS: the executor is sound: quiet operations, all. -/
import Derived.Test.YtlcaelckplknnaaGreatDoorXS3
set_option linter.unusedVariables false
set_option linter.unusedSimpArgs false
namespace Go.XC
open Go Go.SX
variable {β : Type} {P : Program}

/-- a quiet operation yields a value -/
def SQ (P : Program) (op : Op) (E : Tr A) (s : St) (a : A) : Prop := ∀ V e w (K : Value → M), ERel V E e → Rel V s w → (∀ v, conc V a = some v → K v w) → opQ P op (evo e) K w

theorem w1_some {o : Option Value} {v : Value} {k : Value → M} {w : World} (h : o = some v) (hk : k v w) : w1 o k w := by subst h; exact hk
theorem ws_some {o : Option (List Value)} {v : List Value} {k : List Value → M} {w : World} (h : o = some v) (hk : k v w) : ws o k w := by subst h; exact hk
theorem wi_some {o : Option Value} {kd : IntKind} {n : Int} {k : Int → M} {w : World} (h : o = some (.int kd n)) (hk : k n w) : wi o k w := by subst h; exact hk

theorem intA_sound {a : A} {n : Int} (h : intA a = some n) {V : Vn} {v : Value} (hv : conc V a = some v) : ∃ kd, v = .int kd n := by
  unfold intA at h
  split at h
  · simp only [Option.some.injEq] at h; subst h
    simp only [conc, Option.some.injEq] at hv; subst hv; exact ⟨_, rfl⟩
  · cases h
theorem lenA_sound {a : A} {n : Nat} (h : lenA a = some n) {V : Vn} {v : Value} (hv : conc V a = some v) : ∃ q c, v = .slice q n c := by
  unfold lenA at h
  split at h
  · simp only [Option.some.injEq] at h; subst h
    simp only [conc, Option.some.injEq] at hv; subst hv; exact ⟨_, _, rfl⟩
  · simp only [Option.some.injEq] at h; subst h
    simp only [conc, Option.bind_eq_some_iff, Option.map_eq_some_iff] at hv
    obtain ⟨x, _, c, _, rfl⟩ := hv; exact ⟨_, _, rfl⟩
  · cases h

theorem lookX_inv {s : St} {T : TypeId} {m key : A} {ok : Bool} {k : A → Option β} {r : β} (h : lookX P s T m key ok k = some r) :
    ∃ a, k a = some r ∧ ∀ V w (K : Value → M) u v, Rel V s w → conc V m = some u → conc V key = some v → (∀ v, conc V a = some v → K v w) → ∃ q, u = .map q ∧ lookM P T q v ok K w := by
  unfold lookX at h
  split at h
  · rename_i kT eT hu
    obtain ⟨i, hi, h⟩ := oK_inv h
    obtain ⟨z, hz, h⟩ := oK_inv h
    obtain ⟨es, hes, h⟩ := oK_inv h
    obtain ⟨x, h, hx⟩ := findX_inv h
    have lk : ∀ V w (K : Value → M) u v, Rel V s w → conc V m = some u → conc V key = some v →
        (∀ x', (match x with | none => x' = none | some (j, a) => ∃ v, conc V a = some v ∧ x' = some (j, v)) →
          (match ok with
          | true => asT P eT fun v => xd .kb fun b => rq ((v, b) = (match x' with | some x => (x.2, true) | none => (z, false))) (K (.tuple #[v, .bool b]))
          | false => asT P eT fun v => rq (v = (match x' with | some x => x.2 | none => z)) (K v)) w) → ∃ q, u = .map q ∧ lookM P T q v ok K w := by
      intro V w K u v hR hm hk hK
      obtain ⟨q, es', rfl, h1, h2, h3⟩ := entsX_sound hes hR hm
      obtain ⟨x', h4, h5, h6⟩ := hx V es'.toList v hk h2 h3
      refine ⟨q, rfl, ?_⟩
      simp only [lookM, hu, hi, hz]
      refine ⟨es', x', h1, fun w => ⟨h4 _ w, h5 w⟩, hK x' ?_⟩
      cases x with
      | none => exact h6
      | some x => obtain ⟨j, a⟩ := x; obtain ⟨v, g1, g2, _⟩ := h6; exact ⟨v, g1, g2⟩
    cases x with
    | some x =>
      obtain ⟨j, a⟩ := x
      obtain ⟨h1, h⟩ := ck_inv h
      cases ok with
      | true =>
        refine ⟨_, h, fun V w K u v hR hm hk hK => lk V w K u v hR hm hk fun x' hx' => ?_⟩
        obtain ⟨v', g1, rfl⟩ := hx'
        exact okT1_sound (K := fun v => xd .kb fun b => rq ((v, b) = (v', true)) (K (.tuple #[v, .bool b]))) h1 g1 ⟨true, rfl, hK _ (by simp [conc, concL, g1])⟩
      | false =>
        refine ⟨_, h, fun V w K u v hR hm hk hK => lk V w K u v hR hm hk fun x' hx' => ?_⟩
        obtain ⟨v', g1, rfl⟩ := hx'
        exact okT1_sound (K := fun v => rq (v = v') (K v)) h1 g1 ⟨rfl, hK _ g1⟩
    | none =>
      obtain ⟨za, h, hza⟩ := ofVK_inv h
      obtain ⟨h1, h⟩ := ck_inv h
      cases ok with
      | true =>
        refine ⟨_, h, fun V w K u v hR hm hk hK => lk V w K u v hR hm hk fun x' hx' => ?_⟩
        have : x' = none := hx'
        subst this
        exact okT1_sound (K := fun v => xd .kb fun b => rq ((v, b) = (z, false)) (K (.tuple #[v, .bool b]))) h1 (hza V) ⟨false, rfl, hK _ (by simp [conc, concL, hza V])⟩
      | false =>
        refine ⟨_, h, fun V w K u v hR hm hk hK => lk V w K u v hR hm hk fun x' hx' => ?_⟩
        have : x' = none := hx'
        subst this
        exact okT1_sound (K := fun v => rq (v = z) (K v)) h1 (hza V) ⟨rfl, hK _ (hza V)⟩
  · cases h

theorem sliceX_inv {s : St} {sz : Nat} {x : A} {l h' : Int} {k : A → Option β} {r : β} (h : sliceX s sz x l h' k = some r) :
    ∃ a, k a = some r ∧ ∀ V (K : Value → M) w v, Rel V s w → conc V x = some v → (∀ v, conc V a = some v → K v w) → ∃ q n c, v = .slice q n c ∧ (0 ≤ l ∧ l ≤ h' ∧ h' ≤ c) ∧ (K (.slice (slA q c l.toNat sz) (h'.toNat - l.toNat) (c - l.toNat)) w) := by
  unfold sliceX at h
  split at h
  · obtain ⟨h1, h⟩ := ck_inv h
    simp only [Bool.and_eq_true, leI_iff'] at h1
    have h := fN_inv h
    have h := fN_inv h
    refine ⟨_, h, fun V K w v hR hv hK => ?_⟩
    simp only [conc, Option.some.injEq] at hv; subst hv
    refine ⟨_, _, _, rfl, ⟨h1.1.1, h1.1.2, h1.2⟩, hK _ ?_⟩
    unfold slA; split <;> simp [conc]
  · obtain ⟨h1, h⟩ := ck_inv h
    simp only [Bool.and_eq_true, leI_iff'] at h1
    have h := fN_inv h
    have h := fN_inv h
    split at h
    · rename_i hb
      refine ⟨_, h, fun V K w v hR hv hK => ?_⟩
      simp only [conc, concC, Option.map_some, Option.bind_eq_some_iff, Option.some.injEq] at hv
      obtain ⟨x, hx, rfl⟩ := hv
      refine ⟨_, _, _, rfl, ⟨h1.1.1, h1.1.2, h1.2⟩, hK _ ?_⟩
      have := beq_iff hb
      simp [slA, this, conc, hx, concC]
    · rename_i hb
      have h := fN_inv h
      refine ⟨_, h, fun V K w v hR hv hK => ?_⟩
      simp only [conc, concC, Option.map_some, Option.bind_eq_some_iff, Option.some.injEq] at hv
      obtain ⟨x, hx, rfl⟩ := hv
      refine ⟨_, _, _, rfl, ⟨h1.1.1, h1.1.2, h1.2⟩, hK _ ?_⟩
      have this : ∀ {cap : Nat}, Nat.beq cap l.toNat = false → ¬ cap = l.toNat := fun hb e => by rw [e, Nat.beq_refl] at hb; cases hb
      simp [slA, this hb, conc, hx, concC, add_mk]
  · split at h
    · rename_i b o len j _ _ n' z o' j' sz' hB
      obtain ⟨h1, h⟩ := ck_inv h
      simp only [Bool.and_eq_true, leI_iff', eqI_iff'] at h1
      have h9 := fN_inv h
      clear h
      obtain ⟨⟨⟨⟨⟨h0, h2⟩, h3⟩, h4⟩, h5⟩, h6⟩ := h1
      have h3 := beq_iff h3; have h4 := beq_iff h4; have h5 := Nat.le_of_ble_eq_true h5; have h6 := Nat.le_of_ble_eq_true h6
      subst h0 h3 h4
      refine ⟨_, h9, fun V K w v hR hv hK => ?_⟩
      simp only [conc, Option.bind_eq_some_iff, Option.map_eq_some_iff] at hv
      obtain ⟨x, hx, c, hc, rfl⟩ := hv
      obtain ⟨x', hx', c', g1, g2, g3, q, g4, g5⟩ := hR.blk _ _ hB
      simp only [concC] at hc
      rw [hc] at g4; obtain rfl := Option.some.inj g4
      have hle : h'.toNat ≤ c := by
        have : h'.toNat * sz ≤ c * sz := by omega
        exact Nat.le_of_mul_le_mul_right this (by omega)
      refine ⟨_, _, _, rfl, ⟨by omega, by omega, by omega⟩, hK _ ?_⟩
      have : ∀ q : Option Addr, slA q c 0 sz = q := by
        intro q
        unfold slA
        split
        · rfl
        · cases q with
          | none => rfl
          | some q => simp [Addr.add]
      simp [this, conc, hx, concC, hc]
    · cases h
  · cases h

theorem oEvK_inv {E : Tr A} {x : Option Operand} {d : Int} {k : Int → Option β} {r : β} (h : oEvK E x d k = some r) :
    ∃ n, k n = some r ∧ ∀ V e, ERel V E e → ∃ kd, (match x with | some x => evo e x | none => some (.int .i64 d)) = some (.int kd n) := by
  unfold oEvK at h
  split at h
  · obtain ⟨a, h, ha⟩ := evK_inv h
    obtain ⟨n, hn, h⟩ := oK_inv h
    refine ⟨n, h, fun V e he => ?_⟩
    obtain ⟨v, h1, h2⟩ := ha V e he
    obtain ⟨kd, rfl⟩ := intA_sound hn h1
    exact ⟨kd, h2⟩
  · exact ⟨d, h, fun V e he => ⟨.i64, rfl⟩⟩

theorem lit_conc {V : Vn} {u v : Value} (h : conc V (.lit u) = some v) : v = u := by simp only [conc, Option.some.injEq] at h; exact h.symm

theorem bltnQX_inv {b : Builtin} {tys : List TypeId} {args : List A} {k : A → Option β} {r : β} (h : bltnQX P b tys args k = some r) :
    ∃ a, k a = some r ∧ ∀ V vs (K : Value → M) w, concL V args = some vs → (∀ v, conc V a = some v → K v w) → bltnQ P b tys vs K w := by
  unfold bltnQX at h
  split at h
  · split at h
    · rename_i hu
      have h := fN_inv h
      refine ⟨_, h, fun V vs K w hv hK => ?_⟩
      obtain ⟨v, us, h1, h2, rfl⟩ := concL_cons hv
      have := lit_conc h1; subst this
      simp only [concL, Option.some.injEq] at h2; subst h2
      simp only [bltnQ, hu]; exact hK _ rfl
    · cases h
  · split at h
    · rename_i hu
      have h := fN_inv h
      refine ⟨_, h, fun V vs K w hv hK => ?_⟩
      obtain ⟨v, us, h1, h2, rfl⟩ := concL_cons hv
      simp only [conc, Option.bind_eq_some_iff, Option.map_eq_some_iff] at h1
      obtain ⟨x, _, c, _, rfl⟩ := h1
      simp only [concL, Option.some.injEq] at h2; subst h2
      simp only [bltnQ, hu]; exact hK _ rfl
    · cases h
  · split at h
    · rename_i hu
      have h := fN_inv h
      refine ⟨_, h, fun V vs K w hv hK => ?_⟩
      obtain ⟨v, us, h1, h2, rfl⟩ := concL_cons hv
      have := lit_conc h1; subst this
      simp only [concL, Option.some.injEq] at h2; subst h2
      simp only [bltnQ, hu]; exact hK _ rfl
    · cases h
  · have h := retI_inv h
    refine ⟨_, h, fun V vs K w hv hK => ?_⟩
    obtain ⟨v, us, h1, h2, rfl⟩ := concL_cons hv
    obtain ⟨v', us', h3, h4, rfl⟩ := concL_cons h2
    have := lit_conc h1; subst this
    have := lit_conc h3; subst this
    simp only [concL, Option.some.injEq] at h4; subst h4
    simp only [bltnQ, foldV, min2V]; exact hK _ rfl
  · have h := retI_inv h
    refine ⟨_, h, fun V vs K w hv hK => ?_⟩
    obtain ⟨v, us, h1, h2, rfl⟩ := concL_cons hv
    obtain ⟨v', us', h3, h4, rfl⟩ := concL_cons h2
    have := lit_conc h1; subst this
    have := lit_conc h3; subst this
    simp only [concL, Option.some.injEq] at h4; subst h4
    simp only [bltnQ, foldV, max2V]; exact hK _ rfl
  · cases h

theorem iaddrX_inv {T : TypeId} {a : A} {n : Int} {k : A → Option β} {r : β} (h : iaddrX P T a n k = some r) :
    ∃ b, k b = some r ∧ ∀ V e w (K : Value → M) x i kd v, conc V a = some v → evo e x = some v → evo e i = some (.int kd n) → (∀ v, conc V b = some v → K v w) → opQ P (.indexAddr T x i) (evo e) K w := by
  unfold iaddrX at h
  split at h
  · rename_i hu
    split at h
    · rename_i sz hsz
      obtain ⟨hb, h⟩ := ck_inv h
      simp only [Bool.and_eq_true, leI_iff', ltI_iff'] at hb
      have h := fN_inv h
      refine ⟨_, h, fun V e w K x i kd v h1 h2 h4 hK => ?_⟩
      simp only [conc, Option.bind_eq_some_iff, Option.map_eq_some_iff] at h1
      obtain ⟨x, hx, c, hc, rfl⟩ := h1
      refine w1_some h2 (wi_some h4 ?_)
      simp only [hu, hsz]
      exact ⟨_, rfl, hb.1, hb.2, hK _ (by simp [conc, hx, add_mk])⟩
    · cases h
  · rename_i hu
    split at h
    · rename_i sz hsz
      obtain ⟨hb, h⟩ := ck_inv h
      simp only [Bool.and_eq_true, leI_iff', ltI_iff'] at hb
      have h := fN_inv h
      refine ⟨_, h, fun V e w K x i kd v h1 h2 h4 hK => ?_⟩
      simp only [conc, Option.map_eq_some_iff] at h1
      obtain ⟨x, hx, rfl⟩ := h1
      refine w1_some h2 (wi_some h4 ?_)
      simp only [hu, hsz]
      exact ⟨hb, hK _ (by simp [conc, hx, add_mk])⟩
    · cases h
  · cases h

theorem xQ_inv {op : Op} {E : Tr A} {s : St} {k : A → Option β} {r : β} (h : xQ P op E s k = some r) : ∃ a, k a = some r ∧ SQ P op E s a := by
  unfold xQ at h
  split at h
  · obtain ⟨a, h, ha⟩ := evK_inv h
    refine ⟨a, h, fun V e w K he hR hK => ?_⟩
    obtain ⟨v, h1, h2⟩ := ha V e he
    exact w1_some h2 (hK _ h1)
  · obtain ⟨a, h, ha⟩ := evK_inv h
    refine ⟨a, h, fun V e w K he hR hK => ?_⟩
    obtain ⟨v, h1, h2⟩ := ha V e he
    exact w1_some h2 (hK _ h1)
  · obtain ⟨c, h, hc⟩ := evK_inv h
    split at h
    · obtain ⟨a, h, ha⟩ := evK_inv h
      refine ⟨a, h, fun V e w K he hR hK => ?_⟩
      obtain ⟨v, h1, h2⟩ := hc V e he
      have := lit_conc h1; subst this
      obtain ⟨u, h3, h4⟩ := ha V e he
      exact w1_some h2 (w1_some h4 (hK _ h3))
    · obtain ⟨a, h, ha⟩ := evK_inv h
      refine ⟨a, h, fun V e w K he hR hK => ?_⟩
      obtain ⟨v, h1, h2⟩ := hc V e he
      have := lit_conc h1; subst this
      obtain ⟨u, h3, h4⟩ := ha V e he
      exact w1_some h2 (w1_some h4 (hK _ h3))
    · cases h
  · obtain ⟨c, h, hc⟩ := evK_inv h
    split at h
    · obtain ⟨a, h, ha⟩ := loadX_inv h
      refine ⟨a, h, fun V e w K he hR hK => ?_⟩
      obtain ⟨v, h1, h2⟩ := hc V e he
      simp only [conc, Option.map_eq_some_iff] at h1
      obtain ⟨x, hx, rfl⟩ := h1
      exact w1_some h2 (ha V w x K hR hx hK)
    · cases h
  · obtain ⟨c, h, hc⟩ := evK_inv h
    split at h
    · refine ⟨_, h, fun V e w K he hR hK => ?_⟩
      obtain ⟨v, h1, h2⟩ := hc V e he
      have h1' := h1
      simp only [conc, Option.map_eq_some_iff] at h1
      obtain ⟨x, hx, rfl⟩ := h1
      exact w1_some h2 (hK _ h1')
    · refine ⟨_, h, fun V e w K he hR hK => ?_⟩
      obtain ⟨v, h1, h2⟩ := hc V e he
      have h1' := h1
      simp only [conc, Option.bind_eq_some_iff, Option.map_eq_some_iff] at h1
      obtain ⟨x, hx, y, hy, rfl⟩ := h1
      exact w1_some h2 (hK _ h1')
    · cases h
  · obtain ⟨a, h, ha⟩ := evK_inv h
    obtain ⟨b, h, hb⟩ := evK_inv h
    obtain ⟨u, h, hu⟩ := binX_inv h
    refine ⟨_, h, fun V e w K he hR hK => ?_⟩
    obtain ⟨v1, h1, h2⟩ := ha V e he
    obtain ⟨v2, h3, h4⟩ := hb V e he
    exact w1_some h2 (w1_some h4 (hu K w V v1 v2 hR h1 h3 (hK _ rfl)))
  · obtain ⟨a, h, ha⟩ := evK_inv h
    unfold unX at h
    split at h
    · have h := retB_inv h
      refine ⟨_, h, fun V e w K he hR hK => ?_⟩
      obtain ⟨v, h1, h2⟩ := ha V e he
      have := lit_conc h1; subst this
      exact w1_some h2 (hK _ rfl)
    · have h := retI_inv h
      refine ⟨_, h, fun V e w K he hR hK => ?_⟩
      obtain ⟨v, h1, h2⟩ := ha V e he
      have := lit_conc h1; subst this
      exact w1_some h2 (hK _ rfl)
    · have h := retI_inv h
      refine ⟨_, h, fun V e w K he hR hK => ?_⟩
      obtain ⟨v, h1, h2⟩ := ha V e he
      have := lit_conc h1; subst this
      exact w1_some h2 (hK _ rfl)
    · cases h
  · obtain ⟨a, h, ha⟩ := evK_inv h
    split at h
    · rename_i hu
      have h := retI_inv h
      refine ⟨_, h, fun V e w K he hR hK => ?_⟩
      obtain ⟨v, h1, h2⟩ := ha V e he
      have := lit_conc h1; subst this
      refine w1_some h2 ?_
      simp only [hu]; exact hK _ rfl
    · cases h
  · obtain ⟨a, h, ha⟩ := evK_inv h
    unfold faddrX at h
    split at h
    · rename_i hu
      obtain ⟨fl, hfl, h⟩ := oK_inv h
      split at h
      · rename_i hsz
        have h := fN_inv h
        refine ⟨_, h, fun V e w K he hR hK => ?_⟩
        obtain ⟨v, h1, h2⟩ := ha V e he
        simp only [conc, Option.map_eq_some_iff] at h1
        obtain ⟨x, hx, rfl⟩ := h1
        refine w1_some h2 ?_
        rw [at?_eq] at hfl
        simp only [hu, hfl, hsz]
        exact hK _ (by simp [conc, hx, add_mk])
      · cases h
    · cases h
  · obtain ⟨a, h, ha⟩ := evK_inv h
    unfold fieldX at h
    split at h
    · rename_i hu
      obtain ⟨fl, hfl, h⟩ := oK_inv h
      obtain ⟨b, h, hb⟩ := partX_inv h
      refine ⟨_, h, fun V e w K he hR hK => ?_⟩
      obtain ⟨v, h1, h2⟩ := ha V e he
      simp only [conc, Option.map_eq_some_iff] at h1
      obtain ⟨us, hus, rfl⟩ := h1
      refine w1_some h2 ?_
      rw [at?_eq] at hfl
      simp only [hu, hfl]
      obtain ⟨v, h3, h4⟩ := hb V us hus
      exact w1_some h4 (hK _ h3)
    · cases h
  · obtain ⟨a, h, ha⟩ := evK_inv h
    obtain ⟨i, h, hi⟩ := evK_inv h
    obtain ⟨n, hn, h⟩ := oK_inv h
    obtain ⟨b, h, hb⟩ := iaddrX_inv h
    refine ⟨_, h, fun V e w K he hR hK => ?_⟩
    obtain ⟨v, h1, h2⟩ := ha V e he
    obtain ⟨u, h3, h4⟩ := hi V e he
    obtain ⟨kd, rfl⟩ := intA_sound hn h3
    exact hb V e w K _ _ kd v h1 h2 h4 hK
  · rename_i T x lo hi
    obtain ⟨a, h, ha⟩ := evK_inv h
    split at h
    · rename_i hu
      split at h
      · rename_i sz hsz
        obtain ⟨len, hlen, h⟩ := oK_inv h
        obtain ⟨l, h, hl⟩ := oEvK_inv h
        obtain ⟨h', h, hh⟩ := oEvK_inv h
        obtain ⟨b, h, hb⟩ := sliceX_inv h
        refine ⟨_, h, fun V e w K he hR hK => ?_⟩
        obtain ⟨v, h1, h2⟩ := ha V e he
        obtain ⟨q, n, c, rfl, h3, h4⟩ := hb V K w v hR h1 hK
        obtain ⟨q', c', h5⟩ := lenA_sound hlen h1
        simp only [Value.slice.injEq] at h5
        obtain ⟨_, rfl, _⟩ := h5
        obtain ⟨kd, h6⟩ := hl V e he
        obtain ⟨kd', h7⟩ := hh V e he
        refine w1_some h2 ?_
        simp only [hu, hsz]
        refine wi_some h6 (wi_some h7 ⟨h3, h4⟩)
      · cases h
    · cases h
  · obtain ⟨a, h, ha⟩ := evK_inv h
    split at h
    · obtain ⟨b, hb, h⟩ := oK_inv h
      refine ⟨_, h, fun V e w K he hR hK => ?_⟩
      obtain ⟨v, h1, h2⟩ := ha V e he
      simp only [conc, Option.map_eq_some_iff] at h1
      obtain ⟨us, hus, rfl⟩ := h1
      rw [at?_eq] at hb
      obtain ⟨u, h3, h4⟩ := concL_at hus hb
      exact w1_some h2 (w1_some h4 (hK _ h3))
    · cases h
  · obtain ⟨ps, h, hps⟩ := evpsK_inv _ _ _ h
    obtain ⟨a, h, ha⟩ := buildX_inv h
    refine ⟨_, h, fun V e w K he hR hK => ?_⟩
    obtain ⟨us, h1, h2⟩ := hps V e he
    simp only [opQ, h2]
    exact ha V us K w h1 hK
  · obtain ⟨xs, h, hxs⟩ := evsK_inv _ _ _ h
    obtain ⟨ys, h, hys⟩ := evsK_inv _ _ _ h
    refine ⟨_, h, fun V e w K he hR hK => ?_⟩
    obtain ⟨us, h1, h2⟩ := hxs V e he
    obtain ⟨vs, h3, h4⟩ := hys V e he
    exact ws_some h2 (ws_some h4 (hK _ (by simp [conc, h1, h3])))
  · obtain ⟨a, h, ha⟩ := evK_inv h
    split at h
    · cases h
    · rename_i d hn hu
      refine ⟨_, h, fun V e w K he hR hK => ?_⟩
      obtain ⟨v, h1, h2⟩ := ha V e he
      refine w1_some h2 ?_
      have hk := hK _ (show conc V (.ifc _ a) = some (.iface _ v) by simp [conc, h1]; rfl)
      simp only [hu]
      cases d <;> first | exact absurd rfl (hn _) | exact hk
    · cases h
  · obtain ⟨m, h, hm⟩ := evK_inv h
    obtain ⟨key, h, hkey⟩ := evK_inv h
    obtain ⟨a, h, ha⟩ := lookX_inv h
    refine ⟨_, h, fun V e w K he hR hK => ?_⟩
    obtain ⟨v, h1, h2⟩ := hm V e he
    obtain ⟨u, h3, h4⟩ := hkey V e he
    obtain ⟨q, rfl, h5⟩ := ha V w K v u hR h1 h3 hK
    exact w1_some h2 (w1_some h4 h5)
  · obtain ⟨args, h, hargs⟩ := evsK_inv _ _ _ h
    obtain ⟨a, h, ha⟩ := bltnQX_inv h
    refine ⟨_, h, fun V e w K he hR hK => ?_⟩
    obtain ⟨vs, h1, h2⟩ := hargs V e he
    exact ws_some h2 (ha V vs K w h1 hK)
  · cases h

end Go.XC
