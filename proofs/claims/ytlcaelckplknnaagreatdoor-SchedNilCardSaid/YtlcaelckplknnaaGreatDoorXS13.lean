/- XS: the executor is sound: code and functions. -/
import Derived.Test.YtlcaelckplknnaaGreatDoorXS12
set_option linter.unusedVariables false
set_option linter.unusedSimpArgs false
namespace Go.XC
open Go Go.SX
variable {β : Type} {P : Program}

inductive Out where
  | n (E : Tr A) (s : St)
  | x (id : Nat) (E : Tr A) (s : St)
  | r (E : Tr A) (s : St)
def sel (o : Out) (kn : Tr A → St → Option β) (kx : Nat → Tr A → St → Option β) (kr : Tr A → St → Option β) : Option β := match o with
  | .n E s => kn E s
  | .x id E s => kx id E s
  | .r E s => kr E s

/-- what a piece of code leaves -/
def PN (N : Nat) (a : Act) (V : Vn) (s : St) (w : World) (E' : Tr A) (s' : St) (a' : Act) (w' : World) : Prop :=
  a'.tmps.size = N ∧ a'.defers = a.defers ∧ ∃ V' e', Mv V s w V' s' w' ∧ EOk e' a' ∧ ERel V' E' e'
def PQ (N : Nat) (a : Act) (V : Vn) (s : St) (w : World) : Out → Exit → Act → World → Prop
  | .n E' s', .normal, a', w' => PN N a V s w E' s' a' w'
  | .x id E' s', .exit id', a', w' => id = id' ∧ PN N a V s w E' s' a' w'
  | .r E' s', .ret, a', w' => PN N a V s w E' s' a' w'
  | _, _, _, _ => False
theorem PN.step {N : Nat} {a a1 : Act} {V V1 : Vn} {s s1 : St} {w w1 : World} (hd : a1.defers = a.defers) (hm : Mv V s w V1 s1 w1) {E' : Tr A} {s' : St} {a' : Act} {w' : World} (h : PN N a1 V1 s1 w1 E' s' a' w') : PN N a V s w E' s' a' w' := by
  obtain ⟨h1, h2, V', e', h3, h4, h5⟩ := h
  exact ⟨h1, h2.trans hd, V', e', hm.trans h3, h4, h5⟩
theorem PQ.step {N : Nat} {a a1 : Act} {V V1 : Vn} {s s1 : St} {w w1 : World} (hd : a1.defers = a.defers) (hm : Mv V s w V1 s1 w1) {o : Out} {ex : Exit} {a' : Act} {w' : World} (h : PQ N a1 V1 s1 w1 o ex a' w') : PQ N a V s w o ex a' w' := by
  cases o <;> cases ex <;> first | exact h.elim | exact PN.step hd hm h | exact ⟨h.1, PN.step hd hm h.2⟩

/-- a loop at a round's beginning, or another piece of code -/
def Wp' (P : Program) (c : Code) (Q : Exit → Act → World → Prop) (a : Act) (w : World) : Prop := match c with
  | .loop b => LoopX P b Q a w
  | c => c.wp P Q a w
theorem Wp'.wp {c : Code} {Q : Exit → Act → World → Prop} {a : Act} {w : World} (h : Wp' P c Q a w) : c.wp P Q a w := by
  cases c <;> first | exact wp_of_loopX h | exact h

def COk (P : Program) (c : Code) (E : Tr A) (s : St) (o : Out) : Prop := ∀ N V w a e, chkC N c = true → a.tmps.size = N → EOk e a → ERel V E e → Rel V s w → Wp' P c (PQ N a V s w o) a w
def XcOk (P : Program) (f : XcT β) : Prop := ∀ c E s kn kx kr r, f c E s kn kx kr = some r → ∃ o, sel o kn kx kr = some r ∧ COk P c E s o

theorem emptyF_inv {ops : Array Oper} : ∀ (l : List Nat) (E : Tr A) (k : Tr A → Option β) (r : β), emptyF ops l E k = some r → ∃ E', k E' = some r ∧ ∀ V e, ERel V E e → ERel V E' e
  | [], E, k, r, h => ⟨E, h, fun V e he => he⟩
  | i :: l, E, k, r, h => by
    unfold emptyF at h
    split at h
    · split at h
      · split at h
        · obtain ⟨E1, h, hg⟩ := setK_inv _ _ _ _ _ _ h
          obtain ⟨E', h, he⟩ := emptyF_inv l E1 k r h
          refine ⟨E', h, fun V e h1 => he V e fun t a ha => ?_⟩
          rw [hg] at ha
          split at ha
          · cases ha
          · exact h1 t a ha
        · exact emptyF_inv l E k r h
      · exact emptyF_inv l E k r h
    · exact emptyF_inv l E k r h

theorem un_le {ops : Array Oper} : un ops (Array.replicate ops.size false) ≤ ops.size := by
  unfold un
  exact Nat.le_trans (List.countP_le_length) (by simp)

theorem region_ok (hN : noNum P) (hmx : P.follows .mixedOrders = true) {id : Nat} {ops : Array Oper} {draw : Bool} {E E' : Tr A} {s s' : St}
    (h : ∀ V e w (K : Env → M), ERel V E e → Rel V s w → (∀ V' e' w', Mv V s w V' s' w' → ERel V' E' e' → K e' w') → wpc P (.region id ops draw) .nd e K (fun _ _ => F) (fun _ => F) w) : COk P (.region id ops draw) E s (.n E' s') := by
  intro N V w a e hc hs he hE hR
  show (Code.region id ops draw).wp P _ a w
  have h1 := h V e w (fun e' w' => ∃ V', Mv V s w V' s' w' ∧ ERel V' E' e') hE hR (fun V' e' w' hm he' => ⟨V', hm, he'⟩)
  refine Code.wp_mono (fun x a' w' hq => ?_) (region_sound hN hmx hc hs he h1)
  cases x <;> first | exact hq.elim | skip
  obtain ⟨g1, g2, g3, g4, e', g5, V', g6, g7⟩ := hq
  exact ⟨g1, g2, V', e', g6, g5, g7⟩

theorem stepX_ok (hN : noNum P) (hmx : P.follows .mixedOrders = true) {sm : Sm} {ih : XcT β} (hih : XcOk P ih) (hcall : CallOk P (callX P sm ih)) : XcOk P (stepX P sm ih) := by
  intro c E s kn kx kr r h
  unfold stepX at h
  split at h
  · -- nothing
    refine ⟨.n E s, h, fun N V w a e hc hs he hE hR => ?_⟩
    exact wp_skip ⟨hs, rfl, V, e, Mv.refl hR rfl (Rest.refl w), he, hE⟩
  · obtain ⟨E', s', h, hS⟩ := regX_inv hcall _ _ _ _ _ h
    exact ⟨.n E' s', h, region_ok hN hmx fun V e w K hE hR hK => hS V e w K hE hR hK⟩
  · rename_i id ops
    obtain ⟨E1, h, hE1⟩ := emptyF_inv _ _ _ _ h
    obtain ⟨E', s', h, hS⟩ := regHX_inv hcall _ _ _ _ _ _ _ h
    refine ⟨.n E' s', h, region_ok hN hmx fun V e w K hE hR hK => ?_⟩
    have hmv : Mv V s w V s w.drew := Mv.refl hR rfl (Rest.of_heap rfl rfl rfl rfl)
    exact hS [] V s w V e w.drew [] (ops.size + 1) K (fun p hp => by cases hp) ⟨fun p hp => (by cases hp), (by simp)⟩ hmv (hE1 V e hE) trivial (Nat.lt_succ_of_le un_le) (fun V' e' w' hm he => hK V' e' w' hm he)
  · rename_i x y
    obtain ⟨o, h, hx⟩ := hih _ _ _ _ _ _ _ h
    have go : ∀ (o2 : Out), (∀ N V w a e, chkC N (.seq x y) = true → a.tmps.size = N → EOk e a → ERel V E e → Rel V s w → ∀ ex a1 w1, PQ N a V s w o ex a1 w1 → (match ex with
        | .normal => y.wp P (PQ N a V s w o2) a1 w1
        | ex => PQ N a V s w o2 ex a1 w1)) → COk P (.seq x y) E s o2 := by
      intro o2 hgo N V w a e hc hs he hE hR
      show (Code.seq x y).wp P _ a w
      have hc1 : chkC N x = true := by simp only [chkC, Bool.and_eq_true] at hc; exact hc.1
      refine wp_seq (Code.wp_mono (fun ex a1 w1 hq => ?_) (hx N V w a e hc1 hs he hE hR).wp)
      have := hgo N V w a e hc hs he hE hR ex a1 w1 hq
      cases ex <;> exact this
    cases o with
    | n E1 s1 =>
      obtain ⟨o2, h, hy⟩ := hih _ _ _ _ _ _ _ h
      refine ⟨o2, h, go o2 fun N V w a e hc hs he hE hR ex a1 w1 hq => ?_⟩
      cases ex <;> first | exact hq.elim | skip
      obtain ⟨g1, g2, V1, e1, g3, g4, g5⟩ := hq
      have hc2 : chkC N y = true := by simp only [chkC, Bool.and_eq_true] at hc; exact hc.2
      exact Code.wp_mono (fun ex a' w' hq => PQ.step g2 g3 hq) (hy N V1 w1 a1 e1 hc2 g1 g4 g5 g3.rel).wp
    | x id E1 s1 =>
      refine ⟨.x id E1 s1, h, go _ fun N V w a e hc hs he hE hR ex a1 w1 hq => ?_⟩
      cases ex <;> first | exact hq.elim | exact hq
    | r E1 s1 =>
      refine ⟨.r E1 s1, h, go _ fun N V w a e hc hs he hE hR ex a1 w1 hq => ?_⟩
      cases ex <;> first | exact hq.elim | exact hq
  · rename_i cnd x y
    obtain ⟨v, h, hv⟩ := evK_inv h
    split at h
    · obtain ⟨o, h, hx⟩ := hih _ _ _ _ _ _ _ h
      refine ⟨o, h, fun N V w a e hc hs he hE hR => ?_⟩
      show (Code.cond cnd x y).wp P _ a w
      obtain ⟨u, h1, h2⟩ := hv V e hE
      have := lit_conc h1; subst this
      have hc1 : chkC N x = true := by simp only [chkC, Bool.and_eq_true] at hc; exact hc.1
      exact wp_cond (evo_ok he _ _ h2) (hx N V w a e hc1 hs he hE hR).wp
    · obtain ⟨o, h, hx⟩ := hih _ _ _ _ _ _ _ h
      refine ⟨o, h, fun N V w a e hc hs he hE hR => ?_⟩
      show (Code.cond cnd x y).wp P _ a w
      obtain ⟨u, h1, h2⟩ := hv V e hE
      have := lit_conc h1; subst this
      have hc2 : chkC N y = true := by simp only [chkC, Bool.and_eq_true] at hc; exact hc.2
      exact wp_cond (evo_ok he _ _ h2) (hx N V w a e hc2 hs he hE hR).wp
    · cases h
  · rename_i id x
    obtain ⟨o, h, hx⟩ := hih _ _ _ _ _ _ _ h
    cases o with
    | n E1 s1 =>
      refine ⟨.n E1 s1, h, fun N V w a e hc hs he hE hR => ?_⟩
      show (Code.block id x).wp P _ a w
      refine wp_block (Code.wp_mono (fun ex a' w' hq => ?_) (hx N V w a e hc hs he hE hR).wp)
      cases ex <;> first | exact hq.elim | exact hq
    | x id' E1 s1 =>
      have h' : (match Nat.beq id' id with | true => kn E1 s1 | false => kx id' E1 s1) = some r := h
      cases hb : Nat.beq id' id with
      | true =>
        rw [hb] at h'
        refine ⟨.n E1 s1, h', fun N V w a e hc hs he hE hR => ?_⟩
        show (Code.block id x).wp P _ a w
        refine wp_block (Code.wp_mono (fun ex a' w' hq => ?_) (hx N V w a e hc hs he hE hR).wp)
        cases ex <;> first | exact hq.elim | skip
        obtain ⟨rfl, hq⟩ := hq
        have hid := beq_iff hb
        simp only [Exit.inBlock]
        rw [if_pos hid]
        exact hq
      | false =>
        rw [hb] at h'
        refine ⟨.x id' E1 s1, h', fun N V w a e hc hs he hE hR => ?_⟩
        show (Code.block id x).wp P _ a w
        refine wp_block (Code.wp_mono (fun ex a' w' hq => ?_) (hx N V w a e hc hs he hE hR).wp)
        cases ex <;> first | exact hq.elim | skip
        obtain ⟨rfl, hq⟩ := hq
        have hid : ¬ id' = id := fun e => by rw [e, Nat.beq_refl] at hb; cases hb
        simp only [Exit.inBlock]
        rw [if_neg hid]
        exact ⟨rfl, hq⟩
    | r E1 s1 =>
      refine ⟨.r E1 s1, h, fun N V w a e hc hs he hE hR => ?_⟩
      show (Code.block id x).wp P _ a w
      refine wp_block (Code.wp_mono (fun ex a' w' hq => ?_) (hx N V w a e hc hs he hE hR).wp)
      cases ex <;> first | exact hq.elim | exact hq
  · rename_i x
    obtain ⟨o, h, hx⟩ := hih _ _ _ _ _ _ _ h
    have go : ∀ (o2 : Out), (∀ N V w a e, chkC N (.loop x) = true → a.tmps.size = N → EOk e a → ERel V E e → Rel V s w → ∀ ex a1 w1, PQ N a V s w o ex a1 w1 → (match ex with
        | .normal => LoopX P x (PQ N a V s w o2) a1 w1
        | ex => PQ N a V s w o2 ex a1 w1)) → COk P (.loop x) E s o2 := by
      intro o2 hgo N V w a e hc hs he hE hR
      show LoopX P x _ a w
      refine loopX_round (Code.wp_mono (fun ex a1 w1 hq => ?_) (hx N V w a e hc hs he hE hR).wp)
      have := hgo N V w a e hc hs he hE hR ex a1 w1 hq
      cases ex <;> exact this
    cases o with
    | n E1 s1 =>
      obtain ⟨o2, h, hy⟩ := hih _ _ _ _ _ _ _ h
      refine ⟨o2, h, go o2 fun N V w a e hc hs he hE hR ex a1 w1 hq => ?_⟩
      cases ex <;> first | exact hq.elim | skip
      obtain ⟨g1, g2, V1, e1, g3, g4, g5⟩ := hq
      have hl : LoopX P x (PQ N a1 V1 s1 w1 o2) a1 w1 := hy N V1 w1 a1 e1 hc g1 g4 g5 g3.rel
      intro b k cs
      obtain ⟨ex, a', w', hq, harr⟩ := hl b k cs
      exact ⟨ex, a', w', PQ.step g2 g3 hq, harr⟩
    | x id E1 s1 =>
      refine ⟨.x id E1 s1, h, go _ fun N V w a e hc hs he hE hR ex a1 w1 hq => ?_⟩
      cases ex <;> first | exact hq.elim | exact hq
    | r E1 s1 =>
      refine ⟨.r E1 s1, h, go _ fun N V w a e hc hs he hE hR ex a1 w1 hq => ?_⟩
      cases ex <;> first | exact hq.elim | exact hq
  · rename_i id
    refine ⟨.x id E s, h, fun N V w a e hc hs he hE hR => ?_⟩
    exact wp_exit ⟨rfl, hs, rfl, V, e, Mv.refl hR rfl (Rest.refl w), he, hE⟩
  · refine ⟨.r E s, h, fun N V w a e hc hs he hE hR => ?_⟩
    exact wp_ret ⟨hs, rfl, V, e, Mv.refl hR rfl (Rest.refl w), he, hE⟩
  · cases h

/-! functions -/
theorem argsX_inv : ∀ (as : List A) (i : Nat) (E : Tr A) (k : Tr A → Option β) (r : β), argsX i as E k = some r →
    ∃ E', k E' = some r ∧ ∀ V vs, concL V as = some vs → ∀ t a, E'.get t = some a → (∃ v, conc V a = some v ∧ lk (argsE i vs) t = some v) ∨ (E.get t = some a ∧ t < i) ∨ (E.get t = some a ∧ i + as.length ≤ t)
  | [], i, E, k, r, h => ⟨E, h, fun V vs hv t a ha => by
      rcases Nat.lt_or_ge t i with h1 | h1
      · exact .inr (.inl ⟨ha, h1⟩)
      · exact .inr (.inr ⟨ha, by simpa using h1⟩)⟩
  | a :: as, i, E, k, r, h => by
    obtain ⟨E1, h, hg⟩ := setK_inv _ _ _ _ _ _ h
    obtain ⟨E', h, hE⟩ := argsX_inv as (Nat.succ i) E1 k r h
    refine ⟨E', h, fun V vs hv t b hb => ?_⟩
    obtain ⟨v, us, h1, h2, rfl⟩ := concL_cons hv
    simp only [argsE, lk_cons]
    rcases hE V us h2 t b hb with ⟨u, g1, g2⟩ | ⟨g1, g2⟩ | ⟨g1, g2⟩
    · by_cases ht : i = t
      · exfalso
        obtain ⟨g3, _⟩ := argsE_ok _ _ _ _ g2
        omega
      · exact .inl ⟨u, g1, by rw [if_neg ht]; exact g2⟩
    · rw [hg] at g1
      by_cases ht : t = i
      · rw [if_pos ht] at g1
        obtain rfl := Option.some.inj g1
        exact .inl ⟨v, h1, by rw [if_pos ht.symm]⟩
      · rw [if_neg ht] at g1
        exact .inr (.inl ⟨g1, by omega⟩)
    · rw [hg] at g1
      by_cases ht : t = i
      · omega
      · rw [if_neg ht] at g1
        exact .inr (.inr ⟨g1, by simp only [List.length_cons]; omega⟩)

theorem resX_inv {E : Tr A} {s : St} : ∀ (l : List ResultVar) (k : List A → Option β) (r : β), resX P l E s k = some r →
    ∃ as, k as = some r ∧ as.length = l.length ∧ ∀ V e w (K : List Value → M), ERel V E e → Rel V s w → (∀ vs, concL V as = some vs → K vs w) → resM P l e K w
  | [], k, r, h => ⟨[], h, rfl, fun V e w K he hR hK => hK [] (by simp [concL])⟩
  | .tmp t :: l, k, r, h => by
    obtain ⟨a, ha, h⟩ := oK_inv h
    obtain ⟨as, h, hl, has⟩ := resX_inv l _ r h
    refine ⟨a :: as, h, by simp [hl], fun V e w K he hR hK => ?_⟩
    obtain ⟨v, h1, h2⟩ := he t a ha
    exact w1_some h2 (has V e w _ he hR fun vs hv => hK _ (concL_mk h1 hv))
  | .cell t T :: l, k, r, h => by
    obtain ⟨p, hp, h⟩ := oK_inv h
    split at h
    · obtain ⟨a, h, ha⟩ := loadX_inv h
      obtain ⟨as, h, hl, has⟩ := resX_inv l _ r h
      refine ⟨a :: as, h, by simp [hl], fun V e w K he hR hK => ?_⟩
      obtain ⟨v, h1, h2⟩ := he t _ hp
      simp only [conc, Option.map_eq_some_iff] at h1
      obtain ⟨x, hx, rfl⟩ := h1
      refine w1_some h2 (ha V w x _ hR hx fun v hv => has V e w _ he hR fun vs hvs => hK _ (concL_mk hv hvs))
    · cases h
theorem retX_inv {fn : Func} {E : Tr A} {s : St} {k : A → St → Option β} {r : β} (h : retX P fn E s k = some r) :
    ∃ a, k a s = some r ∧ ∀ V e w (R : Value → M), ERel V E e → Rel V s w → (∀ v, conc V a = some v → R v w) → retM P fn e R w := by
  obtain ⟨as, h, hl, has⟩ := resX_inv _ _ _ h
  split at h
  · rename_i a
    refine ⟨a, h, fun V e w R he hR hK => has V e w _ he hR fun vs hv => ?_⟩
    obtain ⟨v, us, h1, h2, rfl⟩ := concL_cons hv
    simp only [concL, Option.some.injEq] at h2; subst h2
    exact hK v h1
  · rename_i hne
    refine ⟨_, h, fun V e w R he hR hK => has V e w _ he hR fun vs hv => ?_⟩
    have hlen := concL_length hv
    have hk := hK (.tuple vs.toArray) (by simp [conc, hv])
    match vs, hv, hlen, hk with
    | [], _, _, hk => exact hk
    | [v], hv, hlen, hk =>
      match as, hne, hlen with
      | [a], hne, _ => exact absurd rfl (hne a)
      | [], _, hlen => simp at hlen
      | _ :: _ :: _, _, hlen => simp at hlen
    | v :: u :: vs, _, _, hk => exact hk

def SmOk (P : Program) (sm : Sm) : Prop := ∀ f args s a s', sm f args s = some (a, s') → ∀ V w vs, Rel V s w → concL V args = some vs → cl P f vs (fun v w' => ∃ V', Mv V s w V' s' w' ∧ conc V' a = some v) w

theorem callX_ok {sm : Sm} (hsm : SmOk P sm) {ih : XcT β} (hih : XcOk P ih) : CallOk P (callX P sm ih) := by
  intro f args s k r h
  unfold callX at h
  split at h
  · rename_i a s' hs
    exact ⟨a, s', h, fun V w vs hR hv => hsm f args s a s' hs V w vs hR hv⟩
  · split at h
    · rename_i fn hf
      obtain ⟨hc, h⟩ := ck_inv h
      split at h
      · rename_i c hb
        obtain ⟨E, h, hE⟩ := argsX_inv _ _ _ _ _ h
        obtain ⟨o, h, ho⟩ := hih _ _ _ _ _ _ _ h
        have fin : ∀ (E' : Tr A) (s' : St), (o = .n E' s' ∨ o = .r E' s') → retX P fn E' s' k = some r → ∃ a s', k a s' = some r ∧ ∀ V w vs, Rel V s w → concL V args = some vs → cl P f vs (fun v w' => ∃ V', Mv V s w V' s' w' ∧ conc V' a = some v) w := by
          intro E' s' hos h
          obtain ⟨a, h, ha⟩ := retX_inv h
          refine ⟨a, s', h, fun V w vs hR hv => ?_⟩
          have hlen := concL_length hv
          unfold chkF at hc
          rw [hb] at hc
          simp only [Bool.and_eq_true] at hc
          have hna := Nat.le_of_ble_eq_true hc.2
          refine calls_of_wp hf hb ?_
          have hsz : (vs.toArray ++ Array.replicate (fn.ntmps - vs.toArray.size) undef).size = fn.ntmps := by simp; omega
          have he : EOk (argsE 0 vs) { tmps := vs.toArray ++ Array.replicate (fn.ntmps - vs.toArray.size) undef, defers := [] } := by
            intro t v hv
            obtain ⟨_, h2⟩ := argsE_ok 0 vs t v hv
            simp only [Nat.sub_zero] at h2
            have hlt := (List.getElem?_eq_some_iff.1 h2).1
            rw [Array.getD_eq_getD_getElem?, Array.getElem?_append_left (by simpa using hlt)]
            simp [h2]
          have hE0 : ERel V E (argsE 0 vs) := by
            intro t b hb
            rcases hE V vs hv t b hb with h1 | ⟨h1, _⟩ | ⟨h1, _⟩
            · exact h1
            · cases h1
            · cases h1
          have key : ∀ a' w', PN fn.ntmps { tmps := vs.toArray ++ Array.replicate (fn.ntmps - vs.toArray.size) undef, defers := [] } V s w E' s' a' w' →
              a'.defers = [] ∧ ∃ v, (results fn a'.tmps).run P w' = .ok v w' ∧ ∃ u, Ending.returned v = .returned u ∧ SX.Rest w w' ∧ ∃ V', Mv V s w V' s' w' ∧ conc V' a = some u := by
            rintro a' w' ⟨g1, g2, V', e', g3, g4, g5⟩
            obtain ⟨v, h1, h2⟩ := retM_sound g4 (ha V' e' w' (fun v w' => conc V' a = some v) g5 g3.rel (fun v hv => hv))
            exact ⟨g2, v, h1, v, rfl, g3.rest, V', g3, h2⟩
          refine Code.wp_mono (fun x a' w' hq => ?_) (ho fn.ntmps V w _ _ hc.1 hsz he hE0 hR).wp
          rcases hos with rfl | rfl
          · cases x <;> first | exact hq.elim | exact key a' w' hq
          · cases x <;> first | exact hq.elim | exact key a' w' hq
        cases o with
        | n E' s' => exact fin E' s' (.inl rfl) h
        | x id E' s' => cases h
        | r E' s' => exact fin E' s' (.inr rfl) h
      · cases h
    · cases h

theorem xc_ok (hN : noNum P) (hmx : P.follows .mixedOrders = true) {sm : Sm} (hsm : SmOk P sm) : ∀ (n : Nat), XcOk (β := β) P (xc P sm n)
  | 0 => fun c E s kn kx kr r h => by cases h
  | n + 1 => stepX_ok hN hmx (xc_ok hN hmx hsm n) (callX_ok hsm (xc_ok hN hmx hsm n))

/-- a run of the executor is a run of the program -/
theorem xF_ok (hN : noNum P) (hmx : P.follows .mixedOrders = true) {sm : Sm} (hsm : SmOk P sm) (n : Nat) : CallOk (β := β) P (xF P sm n) := callX_ok hsm (xc_ok hN hmx hsm n)

end Go.XC
