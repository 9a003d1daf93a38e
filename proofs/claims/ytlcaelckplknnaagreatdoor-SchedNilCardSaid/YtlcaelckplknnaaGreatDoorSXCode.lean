/- SX: code and functions: the evaluator is sound. -/
import Derived.Test.YtlcaelckplknnaaGreatDoorSXDraw2
set_option linter.unusedVariables false
set_option linter.unusedSimpArgs false
namespace Go.SX
open Go

variable {P : Program}

theorem edge_iff {x : Oper} {i : Nat} : edge x i = true ↔ ∃ e ∈ x.after, Region.binds .any e = true ∧ e.on = i := by
  unfold edge
  rw [List.any_eq_true]
  constructor
  · rintro ⟨e, he, h⟩
    simp only [Bool.and_eq_true] at h
    exact ⟨e, by simpa using he, h.1, Nat.eq_of_beq_eq_true h.2⟩
  · rintro ⟨e, he, h1, h2⟩
    exact ⟨e, by simpa using he, by simp only [Bool.and_eq_true]; exact ⟨h1, by rw [h2]; exact Nat.beq_refl i⟩⟩

theorem zipIdx_mem {l : List Oper} {i : Nat} {o : Oper} (h : l[i]? = some o) : (o, i) ∈ l.zipIdx := by
  rw [List.mem_zipIdx_iff_getElem?]; exact h

theorem fine_of {ops : Array Oper} {B : Array Nat} (h1 : Region.noSelect ops = true) (h2 : apB ops.toList = true) (h3 : justB ops.toList B = true) : Fine ops B where
  sel := Region.noSelect_spec h1
  apart := by
    intro i j oi oj hi hj hne hei hej
    have hi' : ops.toList[i]? = some oi := by simpa using hi
    have hj' : ops.toList[j]? = some oj := by simpa using hj
    unfold apB at h2
    have := List.all_eq_true.1 (List.all_eq_true.1 h2 _ (zipIdx_mem hi')) _ (zipIdx_mem hj')
    simp only [Bool.or_eq_true] at this
    rcases this with ((h | h) | h) | h
    · exact absurd (Nat.eq_of_beq_eq_true h) hne
    · obtain ⟨e, he, hb, ho⟩ := edge_iff.1 h; exact absurd ho (hei e he hb)
    · obtain ⟨e, he, hb, ho⟩ := edge_iff.1 h; exact absurd ho (hej e he hb)
    · exact h
  just := by
    intro i oi hi j hj hb
    have hi' : ops.toList[i]? = some oi := by simpa using hi
    unfold justB at h3
    have := List.all_eq_true.1 h3 _ (zipIdx_mem hi')
    simp only [Bool.and_eq_true] at this
    have h4 := List.all_eq_true.1 this.2 j (List.mem_range.2 hj)
    simp only [Bool.or_eq_true, hb, Bool.not_true, Bool.false_eq_true, false_or] at h4
    obtain ⟨e, he, h⟩ := List.any_eq_true.1 h4
    simp only [Bool.and_eq_true, Bool.or_eq_true] at h
    refine ⟨e, by simpa using he, h.1, ?_⟩
    rcases h.2 with h | h
    · exact .inl (Nat.eq_of_beq_eq_true h)
    · exact .inr ⟨Nat.le_of_ble_eq_true h.1, h.2⟩
  back := by
    intro i oi hi e he hb
    have hi' : ops.toList[i]? = some oi := by simpa using hi
    unfold justB at h3
    have := List.all_eq_true.1 h3 _ (zipIdx_mem hi')
    simp only [Bool.and_eq_true] at this
    have h4 := List.all_eq_true.1 this.1.1 e (by simpa using he)
    simp only [hb, Bool.not_true, Bool.false_or] at h4
    exact Nat.le_of_ble_eq_true h4
  low := by
    intro i oi hi
    have hi' : ops.toList[i]? = some oi := by simpa using hi
    unfold justB at h3
    have := List.all_eq_true.1 h3 _ (zipIdx_mem hi')
    simp only [Bool.and_eq_true] at this
    exact Nat.le_of_ble_eq_true this.1.2

/-- only normal ends -/
def Norm (K : Act → World → Prop) : Exit → Act → World → Prop
  | .normal, a, w => K a w
  | _, _, _ => False

theorem region_sound (hN : noNum P) (hm : P.follows .mixedOrders = true) {id : Nat} {ops : Array Oper} {draw : Bool} {n : Nat} (hc : chkC n (.region id ops draw) = true) {a : Act} {e : Env} {w : World} {k : Env → M}
    (hs : a.tmps.size = n) (he : EOk e a) {an : Ann} {kx : Nat → Env → M} {kr : Env → M} (h : wpc P (.region id ops draw) an e k kx kr w) : (Code.region id ops draw).wp P (Norm (NQ n a (dsts ops.toList) w k)) a w := by
  simp only [chkC, Bool.and_eq_true] at hc
  cases draw with
  | false =>
    exact wp_region_list (regS_sound hN (Q := Norm (NQ n a (dsts ops.toList) w k)) (fun _ _ h => h) ops.toList a e w hc.1.1 (fun _ h => h) hs rfl (fun _ _ => rfl) (Rest.refl w) he h)
  | true =>
    have hc2 : apB ops.toList = true ∧ justB ops.toList (Region.before ops) = true := by simpa using hc.2
    have hF := fine_of hc.1.2 hc2.1 hc2.2
    refine wp_region_any hm ?_
    have hw : Rest w w.drew := Rest.of_heap rfl rfl rfl rfl
    have hcl : Closed ops (Array.replicate ops.size false) := by
      intro j oj _ hl
      rw [Array.getD_eq_getD_getElem?] at hl
      simp only [Array.getElem?_replicate] at hl
      split at hl <;> cases hl
    have hun : un ops (Array.replicate ops.size false) ≤ ops.size := by
      unfold un
      exact Nat.le_trans (List.countP_le_length) (by simp)
    exact can_any hF (fun c a w h => h) _ _ _ _ _ _ hcl hun (regH_can hN (Q := Norm (NQ n a (dsts ops.toList) w k)) (fun _ _ h => h) hc.1.1 (fun _ h => h) _ _ [] a e w.drew hs rfl (fun _ _ => rfl) hw he (by simp) h)

/-- what a piece of code leaves, by how it ends -/
def CQ (n : Nat) (a0 : Act) (ms : List Nat) (w0 : World) (kn : Env → M) (kx : Nat → Env → M) (kr : Env → M) : Exit → Act → World → Prop
  | .normal, a, w => NQ n a0 ms w0 kn a w
  | .exit id, a, w => NQ n a0 ms w0 (kx id) a w
  | .ret, a, w => NQ n a0 ms w0 kr a w
  | _, _, _ => False

theorem NQ.step {n : Nat} {a0 a1 : Act} {ms ms' ms'' : List Nat} {w0 w1 : World} {k k' : Env → M} {a : Act} {w : World} (h1 : a1.defers = a0.defers) (h2 : ∀ t, t ∉ ms → a1.tmps.getD t undef = a0.tmps.getD t undef) (h3 : Rest w0 w1)
    (hms : ∀ t, t ∉ ms'' → t ∉ ms ∧ t ∉ ms') (h : NQ n a1 ms' w1 k a w) (hk : ∀ e w, k e w → k' e w) : NQ n a0 ms'' w0 k' a w := by
  obtain ⟨g1, g2, g3, g4, e', g5, g6⟩ := h
  exact ⟨g1, g2.trans h1, fun t ht => (g3 t (hms t ht).2).trans (h2 t (hms t ht).1), h3.trans g4, e', g5, hk e' w g6⟩
theorem CQ.step {n : Nat} {a0 a1 : Act} {ms ms' ms'' : List Nat} {w0 w1 : World} {kn : Env → M} {kx : Nat → Env → M} {kr : Env → M} (h1 : a1.defers = a0.defers) (h2 : ∀ t, t ∉ ms → a1.tmps.getD t undef = a0.tmps.getD t undef) (h3 : Rest w0 w1)
    (hms : ∀ t, t ∉ ms'' → t ∉ ms ∧ t ∉ ms') : ∀ (x : Exit) (a : Act) (w : World), CQ n a1 ms' w1 kn kx kr x a w → CQ n a0 ms'' w0 kn kx kr x a w := by
  intro x a w h
  cases x <;> first | exact h.elim | exact NQ.step h1 h2 h3 hms h (fun _ _ h => h)

theorem collect_sound {e : Env} {w : World} : ∀ (js : List (Nat × Srt)) (k : DD js → M), collect js e k w → ∃ d : DD js, k d w ∧ ∀ t v, lk (putD js d []) t = some v → lk e t = some v
  | [], k, h => ⟨(), h, fun t v hv => by simp [putD, lk] at hv⟩
  | (t0, s) :: js, k, h => by
    unfold collect at h
    rcases hl : lk e t0 with _ | v
    · simp only [hl] at h; exact h.elim
    · simp only [hl] at h
      rcases hu : unv s v with _ | d
      · simp only [hu] at h; exact h.elim
      · simp only [hu] at h
        obtain ⟨ds, h1, h2⟩ := collect_sound js _ h
        have hv : s.val d = v := by
          cases s <;> cases v <;> simp [unv] at hu
          case ki.int k1 k2 n =>
            cases hb : beqK k1 k2
            · rw [hb] at hu; cases hu
            · rw [hb] at hu; have := beqK_eq hb; subst this; obtain rfl := Option.some.inj hu; rfl
          case kf.float k1 k2 n =>
            cases hb : beqFK k1 k2
            · rw [hb] at hu; cases hu
            · rw [hb] at hu
              have : k1 = k2 := by cases k1 <;> cases k2 <;> first | rfl | (simp [beqFK] at hb)
              subst this; obtain rfl := Option.some.inj hu; rfl
          all_goals (subst hu; rfl)
        refine ⟨(d, ds), h1, fun t u hu => ?_⟩
        simp only [putD] at hu
        rw [lk_cons] at hu
        by_cases ht : t0 = t
        · subst ht; simp at hu; rw [hl, ← hv, hu]
        · simp only [ht, if_false] at hu; exact h2 t u hu

theorem putD_lk : ∀ (js : List (Nat × Srt)) (d : DD js) (e : Env) (t : Nat) (v : Value), lk (putD js d e) t = some v → lk (putD js d []) t = some v ∨ lk e t = some v
  | [], _, e, t, v, h => .inr h
  | (t0, s) :: js, d, e, t, v, h => by
    simp only [putD] at h ⊢
    rw [lk_cons] at h ⊢
    by_cases ht : t0 = t
    · simp only [ht, if_true] at h ⊢; exact .inl h
    · simp only [ht, if_false] at h ⊢; exact putD_lk js d.2 e t v h

/-- an environment at a place where ways meet -/
theorem EOk.join {js : List (Nat × Srt)} {d : DD js} {e0 e' : Env} {a0 a' : Act} {ms : List Nat} (h0 : EOk e0 a0) (h' : EOk e' a') (hd : ∀ t v, lk (putD js d []) t = some v → lk e' t = some v) (ht : ∀ t, t ∉ ms → a'.tmps.getD t undef = a0.tmps.getD t undef) :
    EOk (putD js d (rm ms e0)) a' := by
  intro t v hv
  rcases putD_lk js d _ t v hv with h | h
  · exact h' t v (hd t v h)
  · obtain ⟨h1, h2⟩ := lk_rm e0 t v h
    rw [ht t h2]; exact h0 t v h1

/-- a loop at a round's beginning -/
def LoopX (P : Program) (c : Code) (Q : Exit → Act → World → Prop) (a : Act) (w : World) : Prop :=
  ∀ (b : Frame) (k : List Item) (cs : List Frame), ∃ e a' w', Q e a' w' ∧ Arrives P (lone (b.at a (.code c :: .inLoop c :: k)) cs w) b k cs e a' w'
theorem wp_of_loopX {c : Code} {Q : Exit → Act → World → Prop} {a : Act} {w : World} (h : LoopX P c Q a w) : (Code.loop c).wp P Q a w := by
  intro b k cs
  obtain ⟨e, a', w', hq, harr⟩ := h b k cs
  exact ⟨e, a', w', hq, .of_steps (.one step_loop) harr⟩
theorem loopX_round {c : Code} {Q : Exit → Act → World → Prop} {a : Act} {w : World} (h : c.wp P (Exit.then (LoopX P c Q) Q) a w) : LoopX P c Q a w := by
  intro b k cs
  obtain ⟨e, a₁, w₁, hq, harr⟩ := h b (.inLoop c :: k) cs
  cases e with
  | normal =>
    obtain ⟨e₂, a₂, w₂, hq₂, harr₂⟩ := hq b k cs
    exact ⟨e₂, a₂, w₂, hq₂, .of_steps (Steps.trans harr (.one step_inLoop)) harr₂⟩
  | exit id => exact ⟨_, a₁, w₁, hq, .pass (x := .inLoop c) rfl (fun _ _ => .inl (by simp)) harr⟩
  | goto l => exact ⟨_, a₁, w₁, hq, .pass (x := .inLoop c) rfl (fun _ _ => .inl (by simp)) harr⟩
  | ret => exact ⟨_, a₁, w₁, hq, .pass (x := .inLoop c) rfl (fun _ _ => .inl (by simp)) harr⟩
  | panic ch => exact ⟨_, a₁, w₁, hq, .pass (x := .inLoop c) rfl (fun _ _ => .inl (by simp)) harr⟩
  | outgrown => exact ⟨_, a₁, w₁, hq, .pass (x := .inLoop c) rfl (fun _ _ => .inl (by simp)) harr⟩

theorem wpc_sound (hN : noNum P) (hm : P.follows .mixedOrders = true) {n : Nat} : ∀ (c : Code) (an : Ann) (e : Env) (kn : Env → M) (kx : Nat → Env → M) (kr : Env → M) (a : Act) (w : World), chkC n c = true → a.tmps.size = n → EOk e a →
    wpc P c an e kn kx kr w → c.wp P (CQ n a (mods c) w kn kx kr) a w := by
  intro c
  induction c with
  | skip =>
    intro an e kn kx kr a w _ hs he h
    exact wp_skip ⟨hs, rfl, fun _ _ => rfl, Rest.refl w, e, he, h⟩
  | region id ops draw =>
    intro an e kn kx kr a w hc hs he h
    refine Code.wp_mono (fun x a' w' hq => ?_) (region_sound hN hm hc hs he h)
    cases x <;> first | exact hq | exact hq.elim
  | exit id =>
    intro an e kn kx kr a w _ hs he h
    exact wp_exit ⟨hs, rfl, fun _ _ => rfl, Rest.refl w, e, he, h⟩
  | ret =>
    intro an e kn kx kr a w _ hs he h
    exact wp_ret ⟨hs, rfl, fun _ _ => rfl, Rest.refl w, e, he, h⟩
  | cond cnd x y ihx ihy =>
    intro an e kn kx kr a w hc hs he h
    simp only [chkC, Bool.and_eq_true] at hc
    unfold wpc at h
    rcases hv : evo e cnd with _ | v
    · simp only [hv] at h; exact h.elim
    · simp only [hv] at h
      have hav := evo_ok he cnd v hv
      cases v
      case bool b =>
        simp only [] at h
        have key : ∀ (an1 an2 : Ann), br b (wpc P x an1 e kn kx kr) (wpc P y an2 e kn kx kr) w → (Code.cond cnd x y).wp P (CQ n a (mods (.cond cnd x y)) w kn kx kr) a w := by
          intro an1 an2 h
          refine wp_cond hav ?_
          cases b with
          | true => exact Code.wp_mono (CQ.step rfl (fun _ (_ : _ ∉ ([] : List Nat)) => rfl) (Rest.refl w) (fun t ht => ⟨by simp, fun hx => ht (List.mem_append_left _ hx)⟩)) (ihx an1 e kn kx kr a w hc.1 hs he h)
          | false => exact Code.wp_mono (CQ.step rfl (fun _ (_ : _ ∉ ([] : List Nat)) => rfl) (Rest.refl w) (fun t ht => ⟨by simp, fun hx => ht (List.mem_append_right _ hx)⟩)) (ihy an2 e kn kx kr a w hc.2 hs he h)
        cases an <;> exact key _ _ h
      all_goals exact h.elim
  | block id c ih =>
    intro an e kn kx kr a w hc hs he h
    refine wp_block ?_
    refine Code.wp_mono (fun x a' w' hq => ?_) (ih _ e kn _ kr a w hc hs he h)
    cases x with
    | exit id' =>
      simp only [Exit.inBlock]
      by_cases hid : id' = id
      · subst hid
        rw [if_pos rfl]
        obtain ⟨g1, g2, g3, g4, e', g5, g6⟩ := hq
        simp only [Nat.beq_refl] at g6
        exact ⟨g1, g2, g3, g4, e', g5, g6⟩
      · rw [if_neg hid]
        obtain ⟨g1, g2, g3, g4, e', g5, g6⟩ := hq
        have : Nat.beq id' id = false := by
          cases hb : Nat.beq id' id
          · rfl
          · exact absurd (Nat.eq_of_beq_eq_true hb) hid
        simp only [this] at g6
        exact ⟨g1, g2, g3, g4, e', g5, g6⟩
    | _ => exact hq
  | seq x y ihx ihy =>
    intro an e kn kx kr a w hc hs he h
    simp only [chkC, Bool.and_eq_true] at hc
    have key : ∀ (an1 : Ann) (K : Env → M), wpc P x an1 e K kx kr w →
        (∀ a1 w1, NQ n a (mods x) w K a1 w1 → y.wp P (CQ n a1 (mods y) w1 kn kx kr) a1 w1) → (Code.seq x y).wp P (CQ n a (mods (.seq x y)) w kn kx kr) a w := by
      intro an1 K h hy
      refine wp_seq ?_
      refine Code.wp_mono (fun ex a1 w1 hq => ?_) (ihx an1 e K kx kr a w hc.1 hs he h)
      have hms : ∀ t, t ∉ mods (.seq x y) → t ∉ ([] : List Nat) ∧ t ∉ mods x := fun t ht => ⟨by simp, fun hx => ht (List.mem_append_left _ hx)⟩
      have hms2 : ∀ t, t ∉ mods (.seq x y) → t ∉ mods x ∧ t ∉ mods y := fun t ht => ⟨fun hx => ht (List.mem_append_left _ hx), fun hx => ht (List.mem_append_right _ hx)⟩
      cases ex with
      | normal =>
        have hq' : NQ n a (mods x) w K a1 w1 := hq
        exact Code.wp_mono (CQ.step hq'.2.1 hq'.2.2.1 hq'.2.2.2.1 hms2) (hy a1 w1 hq')
      | exit id => exact NQ.step rfl (fun _ _ => rfl) (Rest.refl w) hms hq (fun _ _ h => h)
      | ret => exact NQ.step rfl (fun _ _ => rfl) (Rest.refl w) hms hq (fun _ _ h => h)
      | goto l => exact hq.elim
      | panic ch => exact hq.elim
      | outgrown => exact hq.elim
    have plain : ∀ (an1 an2 : Ann), wpc P x an1 e (fun e' => wpc P y an2 e' kn kx kr) kx kr w → (Code.seq x y).wp P (CQ n a (mods (.seq x y)) w kn kx kr) a w := by
      intro an1 an2 h
      refine key an1 _ h fun a1 w1 hq => ?_
      obtain ⟨g1, g2, g3, g4, e', g5, g6⟩ := hq
      exact ihy an2 e' kn kx kr a1 w1 hc.2 g1 g5 g6
    cases an with
    | jn js an1 an2 =>
      have h' : wpc P x an1 e (fun e' => collect js e' fun d => wpc P y an2 (putD js d (rm (mods x) e)) kn kx kr) kx kr w := h
      refine key an1 _ h' fun a1 w1 hq => ?_
      obtain ⟨g1, g2, g3, g4, e', g5, g6⟩ := hq
      obtain ⟨d, h1, h2⟩ := collect_sound js _ g6
      exact ihy an2 _ kn kx kr a1 w1 hc.2 g1 (he.join g5 h2 g3) h1
    | sq an1 an2 => exact plain _ _ h
    | nd => exact plain .nd .nd h
    | cd x' y' => exact plain .nd .nd h
    | bl x' => exact plain .nd .nd h
    | lp js x' => exact plain .nd .nd h
  | loop c ih =>
    intro an e kn kx kr a w hc hs he h
    cases an with
    | lp js an1 =>
      obtain ⟨d0, ⟨N, h1⟩, h2⟩ := collect_sound js _ (show collect js e (fun d0 => lp (fun d j => wpc P c an1 (putD js d (rm (mods c) e)) (fun e' => collect js e' j) kx kr) d0) w from h)
      let Bd : DD js → (DD js → M) → M := fun d j => wpc P c an1 (putD js d (rm (mods c) e)) (fun e' => collect js e' j) kx kr
      -- a loop of N rounds at most
      have loop' : ∀ (N : Nat) (d : DD js) (a1 : Act) (w1 : World), a1.tmps.size = n → a1.defers = a.defers → (∀ t, t ∉ mods c → a1.tmps.getD t undef = a.tmps.getD t undef) → Rest w w1 → EOk (putD js d (rm (mods c) e)) a1 → lpN Bd N d w1 →
          LoopX P c (CQ n a (mods c) w kn kx kr) a1 w1 := by
        intro N
        induction N with
        | zero => intro d a1 w1 _ _ _ _ _ h; exact h.elim
        | succ N ihN =>
          intro d a1 w1 s1 s2 s3 s4 s5 s6
          have s6' : wpc P c an1 (putD js d (rm (mods c) e)) (fun e' => collect js e' (lpN Bd N)) kx kr w1 := s6
          refine loopX_round (Code.wp_mono (fun ex a2 w2 hq => ?_) (ih an1 _ _ kx kr a1 w1 hc s1 s5 s6'))
          have hms : ∀ t, t ∉ mods c → t ∉ mods c ∧ t ∉ mods c := fun t ht => ⟨ht, ht⟩
          cases ex with
          | normal =>
            obtain ⟨g1, g2, g3, g4, e', g5, g6⟩ := hq
            obtain ⟨d', h3, h4⟩ := collect_sound js _ g6
            have g3' : ∀ t, t ∉ mods c → a2.tmps.getD t undef = a.tmps.getD t undef := fun t ht => (g3 t ht).trans (s3 t ht)
            exact ihN d' a2 w2 g1 (g2.trans s2) g3' (s4.trans g4) (he.join g5 h4 g3') h3
          | exit id => exact NQ.step s2 s3 s4 hms hq (fun _ _ h => h)
          | ret => exact NQ.step s2 s3 s4 hms hq (fun _ _ h => h)
          | goto l => exact hq.elim
          | panic ch => exact hq.elim
          | outgrown => exact hq.elim
      exact wp_of_loopX (loop' N d0 a w hs rfl (fun _ _ => rfl) (Rest.refl w) (he.join he h2 (fun _ _ => rfl)) h1)
    | _ => exact h.elim
  | _ =>
    intro an e kn kx kr a w hc hs he h
    exact h.elim

/-! functions -/
def resOf (tmps : Array Value) : ResultVar → Sem Value
  | .tmp t => pure (tmps.getD t undef)
  | .cell x t => do loadVar t (← asAddr (tmps.getD x undef))
theorem results_eq (fn : Func) (tmps : Array Value) : results fn tmps = (do
    let vs ← fn.results.mapM (resOf tmps)
    pure (if h : vs.size = 1 then vs[0] else .tuple vs)) := by
  unfold results
  have : (fun x : ResultVar => match x with
    | .tmp t => (pure (tmps.getD t undef) : Sem Value)
    | .cell a t => do loadVar t (← asAddr (tmps.getD a undef))) = resOf tmps := by
    funext x; cases x <;> rfl
  rw [← this]
  rfl
theorem asAddr_some (q : Addr) : asAddr (.pointer (some q)) = pure q := rfl
theorem resM_sound {e : Env} {a : Act} {w : World} (he : EOk e a) : ∀ (l : List ResultVar) (k : List Value → M), resM P l e k w → ∃ vs : List Value, vs.length = l.length ∧ k vs w ∧
    (l.mapM (resOf a.tmps)).run P w = .ok vs w
  | [], k, h => ⟨[], rfl, h, by simp⟩
  | .tmp t :: l, k, h => by
    obtain ⟨v, hv, h⟩ := w1_sound h
    obtain ⟨vs, hl, hk, hr⟩ := resM_sound he l _ h
    have := he t v hv
    exact ⟨v :: vs, by simp [hl], hk, by simp only [List.mapM_cons, Sem.run_bind, resOf, this, Sem.run_pure, Result.andThen_ok, hr]⟩
  | .cell t T :: l, k, h => by
    obtain ⟨p, hp, h⟩ := w1_sound h
    cases p
    case pointer p =>
      cases p
      case none => exact h.elim
      case some q =>
        replace h : loadM P T q (fun v => resM P l e fun vs => k (v :: vs)) w := h
        obtain ⟨v, hk, _, hrun⟩ := loadM_sound h
        obtain ⟨vs, hl, hk, hr⟩ := resM_sound he l _ hk
        have hq := he t _ hp
        have hrun := hrun w (fun r _ => Rd.same.refl w r)
        exact ⟨v :: vs, by simp [hl], hk, by simp only [List.mapM_cons, Sem.run_bind, resOf, hq, asAddr_some, Sem.run_pure, Result.andThen_ok, hrun, hr]⟩
    all_goals exact h.elim

theorem retM_sound {fn : Func} {e : Env} {a : Act} {w : World} (he : EOk e a) {R : Value → M} (h : retM P fn e R w) : ∃ v, (results fn a.tmps).run P w = .ok v w ∧ R v w := by
  obtain ⟨vs, hl, hk, hr⟩ := resM_sound he _ _ h
  have hr' : (fn.results.mapM (resOf a.tmps)).run P w = .ok vs.toArray w := by
    rw [Array.mapM_eq_mapM_toList, Sem.run_map, hr]; rfl
  match vs, hk, hr' with
  | [], hk, hr' => exact ⟨_, by simp only [results_eq, Sem.run_bind, hr', Result.andThen_ok]; rfl, hk⟩
  | [v], hk, hr' => exact ⟨v, by simp only [results_eq, Sem.run_bind, hr', Result.andThen_ok]; rfl, hk⟩
  | v :: u :: vs, hk, hr' =>
    refine ⟨_, ?_, hk⟩
    simp only [results_eq, Sem.run_bind, hr', Result.andThen_ok]
    rw [dif_neg (by simp)]
    rfl

theorem argsE_ok : ∀ (i : Nat) (args : List Value) (t : Nat) (v : Value), lk (argsE i args) t = some v → i ≤ t ∧ args[t - i]? = some v
  | i, [], t, v, h => by simp [argsE, lk] at h
  | i, u :: args, t, v, h => by
    simp only [argsE] at h
    rw [lk_cons] at h
    by_cases hi : i = t
    · subst hi; simp at h; simp [h]
    · simp only [hi, if_false] at h
      obtain ⟨h1, h2⟩ := argsE_ok (i + 1) args t v h
      refine ⟨by omega, ?_⟩
      rw [show t - i = (t - (i + 1)) + 1 by omega]
      simpa using h2

theorem wpF_sound (hN : noNum P) (hm : P.follows .mixedOrders = true) {f : FuncId} {fn : Func} (hf : P.funcs[f]? = some fn) (an : Ann) {args : List Value} (hc : chkF fn args.length = true) {R : Value → M} {w : World}
    (h : wpF P fn an args R w) : cl P f args R w := by
  unfold wpF at h
  unfold chkF at hc
  rcases hb : fn.body with _ | c
  · rw [hb] at h; exact h.elim
  · rw [hb] at h hc
    simp only [Bool.and_eq_true] at hc
    have hna := Nat.le_of_ble_eq_true hc.2
    refine calls_of_wp hf hb ?_
    have hsz : (args.toArray ++ Array.replicate (fn.ntmps - args.toArray.size) undef).size = fn.ntmps := by simp; omega
    have he : EOk (argsE 0 args) { tmps := args.toArray ++ Array.replicate (fn.ntmps - args.toArray.size) undef, defers := [] } := by
      intro t v hv
      obtain ⟨_, h2⟩ := argsE_ok 0 args t v hv
      simp only [Nat.sub_zero] at h2
      have hlt := (List.getElem?_eq_some_iff.1 h2).1
      rw [Array.getD_eq_getD_getElem?, Array.getElem?_append_left (by simpa using hlt)]
      simp [h2]
    refine Code.wp_mono (fun x a' w' hq => ?_) (wpc_sound hN hm c an _ _ _ _ _ w hc.1 hsz he h)
    have fin : ∀ {ms : List Nat}, NQ fn.ntmps { tmps := args.toArray ++ Array.replicate (fn.ntmps - args.toArray.size) undef, defers := [] } ms w (fun e => retM P fn e R) a' w' →
        a'.defers = [] ∧ ∃ v, (results fn a'.tmps).run P w' = .ok v w' ∧ ∃ u, Ending.returned v = .returned u ∧ Rest w w' ∧ R u w' := by
      rintro ms ⟨g1, g2, g3, g4, e', g5, g6⟩
      obtain ⟨v, h1, h2⟩ := retM_sound g5 g6
      exact ⟨g2, v, h1, v, rfl, g4, h2⟩
    cases x with
    | normal => exact fin hq
    | ret => exact fin hq
    | exit id => obtain ⟨_, _, _, _, e', _, g6⟩ := hq; exact g6.elim
    | goto l => exact hq.elim
    | panic ch => exact hq.elim
    | outgrown => exact hq.elim

end Go.SX
