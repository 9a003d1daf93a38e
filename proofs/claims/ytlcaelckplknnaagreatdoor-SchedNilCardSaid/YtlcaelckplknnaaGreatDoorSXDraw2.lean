/- SX: regions that draw their order: the theorem. -/
import Derived.Test.YtlcaelckplknnaaGreatDoorSXDraw
set_option linter.unusedVariables false
set_option linter.unusedSimpArgs false
namespace Go.SX
open Go

variable {P : Program} {ops : Array Oper} {B : Array Nat}

/-- an operation, without what a quiet one has put -/
theorem wpOp_unput (hsel : ∀ (j : Nat) (o : Oper) cs b, ops[j]? = some o → o.op ≠ .select cs b) {i j : Nat} {oi oj : Oper} {v : Value} (hi : ops[i]? = some oi) (hj : ops[j]? = some oj) (hap : oi.apart ops oj = true)
    {Q : Exit → Act → World → Prop} (hQ : ∀ c a w, ¬ Q (.panic c) a w) {K : Act → World → Prop} {a : Act} {w : World}
    (h : wpOp P ops Q j K (a.put oi.dst v) w) :
    wpOp P ops Q j (fun a' w' => (execOp a'.eval oi = execOp a.eval oi ∧ Region.wanted oi (yielded ops a'.tmps) = Region.wanted oi (yielded ops a.tmps)) ∧ K (a'.put oi.dst v) w') a w := by
  obtain ⟨h1, h2, h3⟩ := Oper.apart_spec hap
  have hsi := fun cs b => hsel i oi cs b hi
  have hsj := fun cs b => hsel j oj cs b hj
  have keep : ∀ (a : Act) u, execOp (a.put oj.dst u).eval oi = execOp a.eval oi ∧ Region.wanted oi (yielded ops (a.put oj.dst u).tmps) = Region.wanted oi (yielded ops a.tmps) := fun a u =>
    ⟨execOp_put oi hsi a oj.dst u h3, wanted_put oi a oj.dst u h3⟩
  unfold wpOp at *
  simp only [hj] at *
  rw [wanted_put oj a oi.dst v h1] at h
  split
  · rename_i hw
    simp only [hw, if_true] at h
    rcases h with h | ⟨hasks, hlets⟩
    case inr => exact .inr ⟨by unfold Oper.asks at *; rw [execOp_put oj hsj a oi.dst v h1] at hasks; exact hasks, hlets⟩
    refine .inl ?_
    unfold Oper.wp at *
    rw [execOp_put oj hsj a oi.dst v h1] at h
    generalize (execOp a.eval oj).run P w = r at *
    cases r with
    | ok n w' =>
      cases n <;> simp only [Oper.upon] at h ⊢
      case value u => exact ⟨keep a u, by rw [← Act.put_comm a v u h2]; exact h⟩
      case skip => exact ⟨keep a _, by rw [← Act.put_comm a v undef h2]; exact h⟩
      case defer d =>
        refine ⟨keep { a with defers := d :: a.defers } _, ?_⟩
        rw [← Act.put_comm _ v undef h2, ← Act.put_defers]
        exact h
      case enter f args =>
        refine Calls.mono h fun e w'' he => ?_
        cases e with
        | returned u => exact ⟨keep a u, by rw [← Act.put_comm a v u h2]; exact he⟩
        | panicked c => exact (hQ _ _ _ he).elim
        | outgrown => exact he
      case row row args => exact Rows.mono h fun u w'' he => ⟨keep a u, by rw [← Act.put_comm a v u h2]; exact he⟩
    | halt x w' =>
      cases x <;> simp only [Oper.upon] at h ⊢
      case panic u => exact (hQ _ _ _ h).elim
  · rename_i hw
    simp only [hw] at h
    exact ⟨keep a _, by rw [← Act.put_comm a v undef h2]; exact h⟩

theorem can_effect (hF : Fine ops B) {Q : Exit → Act → World → Prop} (hQ : ∀ c a w, ¬ Q (.panic c) a w) : ∀ (f : Nat) (listed : Array Bool) (lds : Lds) (a : Act) (w : World) (i : Nat), Closed ops listed →
    can P ops B Q (f + 1) listed lds a w → i ∈ Region.ready .any ops listed → quietAt P ops i = false →
      wpOp P ops Q i (fun a' w' => Rest w w' ∧ Keep B i lds w w' ∧ can P ops B Q f (listed.setIfInBounds i true) lds a' w') a w := by
  intro f
  induction f with
  | zero =>
    intro listed lds a w i hc h hi hq
    unfold can at h
    cases hr : Region.ready .any ops listed with
    | nil => rw [hr] at hi; cases hi
    | cons r rs =>
      simp only [hr] at h
      cases hfq : firstQ (quietAt P ops) (r :: rs) with
      | some q =>
        simp only [hfq] at h
        obtain ⟨o, v, rd, h1, h2, h3⟩ := h
        exact h3.elim
      | none => simp only [hfq] at h; exact h i (hr ▸ hi)
  | succ f ih =>
    intro listed lds a w i hc h hi hq
    have h0 := h
    unfold can at h
    cases hr : Region.ready .any ops listed with
    | nil => rw [hr] at hi; cases hi
    | cons r rs =>
      simp only [hr] at h
      cases hfq : firstQ (quietAt P ops) (r :: rs) with
      | none => simp only [hfq] at h; exact h i (hr ▸ hi)
      | some q =>
        simp only [hfq] at h
        obtain ⟨oq, vq, rq', h1, h2, h3⟩ := h
        have hqm := firstQ_some hfq
        have hqr : q ∈ Region.ready .any ops listed := by rw [hr]; exact hqm.1
        have hiq : i ≠ q := fun he => by rw [he] at hq; rw [hqm.2] at hq; cases hq
        obtain ⟨_, oi, hoi, _⟩ := mem_ready.1 hi
        have hap := both_apart hF h1 hoi hqr hi (Ne.symm hiq)
        have hB := ih _ _ _ _ i (hc.set hqr) h3 (ready_mono hi hiq) hq
        have hU := wpOp_unput hF.sel h1 hoi hap hQ hB
        refine wpOp_mono (fun a' w' hh => ?_) hU
        obtain ⟨⟨he, hw⟩, hr', hk, hcan⟩ := hh
        have hbit := not_ahead hF hc hi hqr
        have hsame : ∀ r ∈ rq', r.same w w' := fun r hr => hk r (mem_keeps.2 ⟨q, rq', List.mem_cons_self, hbit, hr⟩)
        refine ⟨hr', fun r hr => hk r ?_, ?_⟩
        · rw [mem_keeps] at hr ⊢
          obtain ⟨l, rs', g1, g2, g3⟩ := hr
          exact ⟨l, rs', List.mem_cons_of_mem _ g1, g2, g3⟩
        · refine (can_quiet hF f).2 _ _ _ _ q oq vq rq' (ready_mono hqr (Ne.symm hiq)) hqm.2 h1 ((h2.world hsame).of_same he hw) ?_
          rw [Array.setIfInBounds_comm _ _ hiq]
          exact hcan

/-- how many are not listed -/
def un (ops : Array Oper) (listed : Array Bool) : Nat := (List.range ops.size).countP fun i => !listed.getD i true

theorem countP_less (p q : Nat → Bool) : ∀ (l : List Nat) (i : Nat), l.Nodup → i ∈ l → p i = true → q i = false → (∀ j, j ≠ i → q j = p j) → l.countP p = l.countP q + 1
  | [], i, _, hi, _, _, _ => by cases hi
  | x :: l, i, hn, hi, hp, hq, hs => by
    by_cases hx : x = i
    · subst hx
      have hno : x ∉ l := (List.nodup_cons.1 hn).1
      have : l.countP p = l.countP q := List.countP_congr fun j hj => by
        have hne : j ≠ x := fun he => hno (he ▸ hj)
        rw [hs j hne]
      simp [hp, hq, this]
    · have hi' : i ∈ l := by cases hi with | head => exact absurd rfl hx | tail _ h => exact h
      have ih := countP_less p q l i (List.nodup_cons.1 hn).2 hi' hp hq hs
      rw [List.countP_cons, List.countP_cons, hs x hx, ih]
      omega

theorem un_set {listed : Array Bool} {i : Nat} (hi : i ∈ Region.ready .any ops listed) : un ops listed = un ops (listed.setIfInBounds i true) + 1 := by
  obtain ⟨h0, o, ho, _⟩ := mem_ready.1 hi
  have hlt := (Array.getElem?_eq_some_iff.1 ho).1
  have hil : i < listed.size := by
    rcases Nat.lt_or_ge i listed.size with h' | h'
    · exact h'
    · simp [Array.getElem?_eq_none h'] at h0
  unfold un
  refine countP_less _ _ _ i List.nodup_range (List.mem_range.2 hlt) (by rw [h0]; rfl) ?_ (fun j hj => ?_)
  · simp [hil]
  · rw [getD_set_ne true (Ne.symm hj)]

theorem can_any (hF : Fine ops B) {Q : Exit → Act → World → Prop} (hQ : ∀ c a w, ¬ Q (.panic c) a w) : ∀ (f g : Nat) (listed : Array Bool) (lds : Lds) (a : Act) (w : World), Closed ops listed → un ops listed ≤ g →
    can P ops B Q f listed lds a w → wpAny P .any ops Q g listed a w
  | 0, _, _, _, _, _, _, _, h => h.elim
  | f + 1, g, listed, lds, a, w, hc, hg, h => by
    cases hr : Region.ready .any ops listed with
    | nil =>
      unfold can at h
      simp only [hr] at h
      exact wpAny_done hr h g
    | cons r rs =>
      have hu := un_set (ops := ops) (listed := listed) (i := r) (by rw [hr]; exact List.mem_cons_self)
      obtain ⟨g', rfl⟩ : ∃ g', g = g' + 1 := ⟨g - 1, by omega⟩
      refine wpAny_all hr (by simp) fun i hi => ?_
      have hi' : i ∈ Region.ready .any ops listed := by rw [hr]; exact hi
      have hu' := un_set hi'
      cases hq : quietAt P ops i with
      | true =>
        obtain ⟨o, v, rd, h1, h2, h3⟩ := (can_quiet hF f).1 _ _ _ _ i h hi' hq
        exact h2.wpOp h1 (can_any hF hQ f g' _ _ _ _ (hc.set hi') (by omega) h3)
      | false =>
        refine wpOp_mono (fun a' w' hh => ?_) (can_effect hF hQ f _ _ _ _ i hc h hi' hq)
        exact can_any hF hQ f g' _ _ _ _ (hc.set hi') (by omega) hh.2.2

theorem can_keeps {Q : Exit → Act → World → Prop} : ∀ (f : Nat) (listed : Array Bool) (lds lds' : Lds) (a : Act) (w : World), (∀ b r, r ∈ keeps b lds ↔ r ∈ keeps b lds') → can P ops B Q f listed lds a w → can P ops B Q f listed lds' a w
  | 0, _, _, _, _, _, _, h => h
  | f + 1, listed, lds, lds', a, w, hl, h => by
    unfold can at h ⊢
    cases hr : Region.ready .any ops listed with
    | nil => simp only [hr] at h ⊢; exact h
    | cons r rs =>
      simp only [hr] at h ⊢
      cases hq : firstQ (quietAt P ops) (r :: rs) with
      | some i =>
        simp only [hq] at h ⊢
        obtain ⟨o, v, rd, h1, h2, h3⟩ := h
        refine ⟨o, v, rd, h1, h2, can_keeps f _ _ _ _ _ (fun b r => ?_) h3⟩
        simp only [keeps]
        cases b.testBit i <;> simp [hl b r]
      | none =>
        simp only [hq] at h ⊢
        intro i hi
        exact wpOp_mono (fun a' w' hh => ⟨hh.1, fun r hr => hh.2.1 r ((hl _ r).2 hr), can_keeps f _ _ _ _ _ hl hh.2.2⟩) (h i hi)

/-- the evaluator's region is such a one -/
theorem rd_ok_rest {w w' : World} (h : Rest w w') {r : Rd} (hr : r.ok w) : r.ok w' := by
  cases r with
  | cells a n =>
    intro i hi
    have h1 := hr i hi
    unfold World.cell? at h1 ⊢
    split at h1
    · rename_i c T fz hb
      obtain ⟨c', hb', hs⟩ := h.cells _ c T fz hb
      rw [hb']
      simp only []
      split at h1
      · cases h1
      · rename_i hsp
        simp only [hsp, Bool.false_eq_true, if_false]
        have : (a.add i).off < c.size := by
          rcases Nat.lt_or_ge (a.add i).off c.size with h' | h'
          · exact h'
          · rw [Array.getElem?_eq_none h'] at h1; cases h1
        rw [Array.getElem?_eq_getElem (by omega)]; rfl
    · cases h1
  | obj x =>
    simp only [Rd.ok] at hr ⊢
    obtain ⟨v, hv⟩ := Option.isSome_iff_exists.1 hr
    have := (Array.getElem?_eq_some_iff.1 hv).1
    rw [Array.getElem?_eq_getElem (by have := h.size; omega)]; rfl

theorem allM_mem {g : Nat → M} {w : World} : ∀ {l : List Nat}, allM l g w → ∀ i ∈ l, g i w
  | [], _, i, hi => by cases hi
  | [x], h, i, hi => by
    cases hi with
    | head => exact h
    | tail _ hi => cases hi
  | x :: y :: l, h, i, hi => by
    cases hi with
    | head => exact h.1
    | tail _ hi => exact allM_mem h.2 i hi

theorem regH_can (hN : noNum P) {n : Nat} {a0 : Act} {w0 : World} {ms : List Nat} {k : Env → M} {Q : Exit → Act → World → Prop} (hQ : ∀ a' w', NQ n a0 ms w0 k a' w' → Q .normal a' w')
    (hB : dstB n ops.toList = true) (hms : ∀ x ∈ dsts ops.toList, x ∈ ms) :
    ∀ (f : Nat) (listed : Array Bool) (lds : Lds) (a : Act) (e : Env) (w : World), a.tmps.size = n → a.defers = a0.defers → (∀ t, t ∉ ms → a.tmps.getD t undef = a0.tmps.getD t undef) → Rest w0 w → EOk e a →
      (∀ l rs, (l, rs) ∈ lds → ∀ r ∈ rs, r.ok w) → regH P ops B f listed lds e k w → can P ops B Q f listed lds a w
  | 0, _, _, _, _, _, _, _, _, _, _, _, h => h.elim
  | f + 1, listed, lds, a, e, w, hs, hd, ht, hr, he, hl, h => by
    unfold regH at h
    unfold can
    cases hrd : Region.ready .any ops listed with
    | nil => simp only [hrd] at h ⊢; exact hQ a w ⟨hs, hd, ht, hr, e, he, h⟩
    | cons r rs =>
      simp only [hrd] at h ⊢
      have hput : ∀ {o : Oper} {i : Nat}, ops[i]? = some o → ∀ v, (∀ x, o.dst = some x → x < a.tmps.size) ∧ (∀ t, t ∉ ms → (a.put o.dst v).tmps.getD t undef = a0.tmps.getD t undef) := by
        intro o i ho v
        have hmem : o ∈ ops.toList := by simpa using Array.mem_of_getElem? ho
        have hdst : ∀ x, o.dst = some x → x < a.tmps.size := fun x hx => by rw [hs]; exact dstB_mem hB o hmem x hx
        refine ⟨hdst, fun t htm => ?_⟩
        rw [getD_put hdst]
        have : o.dst ≠ some t := fun hx => htm (hms t (dsts_mem hmem t hx))
        simp only [this, if_false]; exact ht t htm
      cases hfq : firstQ (quietAt P ops) (r :: rs) with
      | some i =>
        simp only [hfq] at h ⊢
        have hqm := firstQ_some hfq
        rcases ho : ops[i]? with _ | o
        · simp only [ho] at h; exact h.elim
        · simp only [ho] at h
          have hqq : quietB P o.op = true := by have := hqm.2; simp only [quietAt, ho] at this; exact this
          rcases gd_sound he h with ⟨hw, e1, he1, h1⟩ | ⟨hw, e1, he1, h1⟩
          · obtain ⟨v, hk, hy⟩ := opQ_sound hqq (evo_ok he1) h1
            refine ⟨o, v, readsQ P o.op (evo e1), rfl, .inl ⟨hw, hy⟩, ?_⟩
            refine regH_can hN hQ hB hms f _ _ _ _ w (by rw [put_size]; exact hs) (by rw [put_defers']; exact hd) (hput ho v).2 hr (he1.put (hput ho v).1) ?_ hk
            intro l rs' hmem
            cases hmem with
            | head => exact hy.1
            | tail _ hmem => exact hl l rs' hmem
          · refine ⟨o, undef, [], rfl, .inr ⟨hw, rfl, rfl⟩, ?_⟩
            have := regH_can hN hQ hB hms f _ _ _ _ w (by rw [put_size]; exact hs) (by rw [put_defers']; exact hd) (hput ho undef).2 hr (he1.drop1 (hput ho undef).1) hl h1
            refine can_keeps f _ _ _ _ _ (fun b r => ?_) this
            simp only [keeps]
            cases b.testBit i <;> simp
      | none =>
        simp only [hfq] at h ⊢
        intro i hi
        have h1 := allM_mem h i hi
        have hnq := firstQ_none hfq i hi
        rcases ho : ops[i]? with _ | o
        · simp only [ho] at h1; exact h1.elim
        · simp only [ho] at h1
          unfold wpOp
          simp only [ho]
          rcases gd_sound he h1 with ⟨hw, e1, he1, h2⟩ | ⟨hw, e1, he1, h2⟩
          · rw [if_pos hw]
            refine .inl (opE_sound hN (evo_ok he1) (ks := keeps (B.getD i 0) lds) ?_ h2 fun v w' hr' hk hkk => ⟨hr', hk, ?_⟩)
            · intro r hr
              obtain ⟨l, rs', g1, _, g3⟩ := mem_keeps.1 hr
              exact hl l rs' g1 r g3
            · exact regH_can hN hQ hB hms f _ _ _ _ w' (by rw [put_size]; exact hs) (by rw [put_defers']; exact hd) (hput ho v).2 (hr.trans hr') (he1.put (hput ho v).1) (fun l rs' hm r hr => rd_ok_rest hr' (hl l rs' hm r hr)) hkk
          · rw [if_neg (by rw [hw]; simp)]
            exact ⟨Rest.refl w, fun r _ => Rd.same.refl w r, regH_can hN hQ hB hms f _ _ _ _ w (by rw [put_size]; exact hs) (by rw [put_defers']; exact hd) (hput ho undef).2 hr (he1.drop1 (hput ho undef).1) hl h2⟩

end Go.SX
