/- XS: the executor is sound: regions that draw their order, whole. -/
import Derived.Test.YtlcaelckplknnaaGreatDoorXS10
set_option linter.unusedVariables false
set_option linter.unusedSimpArgs false
namespace Go.XC
open Go Go.SX
variable {β : Type} {P : Program}

/-- what is done ahead, each with its block -/
structure Done (P : Program) (ops : Array Oper) (E : Tr A) (V : Vn) (s : St) (w w0 : World) (e : Env) (D : List (Nat × Nat)) : Prop where
  each : ∀ p ∈ D, ∃ o t obj mk, ops[p.1]? = some o ∧ o.dst = some t ∧ FV P E o.op = some (obj, mk) ∧ lk e t = some (mk p.2) ∧ w.heap[p.2]? = some obj ∧ w0.heap.size ≤ p.2 ∧ ∀ id, live s id → V.ρ id ≠ some p.2
  nd : (D.map Prod.snd).Nodup

theorem garbage {V : Vn} {s : St} {w w' : World} (hR : Rel V s w) (hw : ∀ b, b < w.heap.size → w'.heap[b]? = w.heap[b]?) (hr : SX.Rest w w') (hnf : ∀ a : Addr, w.heap.size ≤ a.block → w'.frozen? a = false) : Mv V s w V s w' where
  nf := hnf
  ext := Vn.le.refl V
  rel := ⟨hR.nb, hR.nc, fun id B h => by obtain ⟨b, h1, h2⟩ := hR.blk id B h; exact ⟨b, h1, h2.mono (Vn.le.refl V) (hw b h2.lt)⟩, hR.inj, hR.iv⟩
  frame := fun b hb _ => hw b hb
  img := fun id b hl hx => .inl ⟨id, hl, hx⟩
  rest := hr

/-- a block that is there, but nobody's, is taken -/
theorem adopt {V0 V : Vn} {s0 s s' : St} {w0 w : World} (hm : Mv V0 s0 w0 V s w) {b : Nat} {B : Blk} (hb : w0.heap.size ≤ b) (hl : ∀ id, live s id → V.ρ id ≠ some b) (hget : ∀ j, s'.h.get j = if j = s.nb then some B else s.h.get j) (hiv : s'.iv = s.iv) (hnb : s'.nb = s.nb + 1) (hnc : s'.nc = s.nc)
    (hB : BlkOk (V.bind s.nb b) w b B) : Mv V0 s0 w0 (V.bind s.nb b) s' w := by
  have hR := hm.rel
  have hn : V.ρ s.nb = none := hR.nb _ (Nat.le_refl _)
  have hle : V.le (V.bind s.nb b) := Vn.le_bind hn
  have hold : ∀ j B', j ≠ s.nb → s'.h.get j = some B' → s.h.get j = some B' := fun j B' hj h => by rw [hget, if_neg hj] at h; exact h
  have hbn : (V.bind s.nb b).ρ s.nb = some b := by simp [Vn.bind]
  have hbo : ∀ j, j ≠ s.nb → (V.bind s.nb b).ρ j = V.ρ j := fun j hj => by simp [Vn.bind, hj]
  refine ⟨hm.ext.trans hle, ⟨fun j hj => ?_, fun j hj => ?_, fun j B' hj => ?_, fun j j' x h1 h2 h3 h4 => ?_, fun i r hi => ?_⟩, hm.frame, fun j x h1 h2 => ?_, hm.rest, hm.nf⟩
  · rw [hnb] at hj; rw [hbo j (by omega)]; exact hR.nb j (by omega)
  · rw [hnc] at hj; exact hR.nc j hj
  · by_cases e : j = s.nb
    · subst e
      rw [hget, if_pos rfl] at hj
      obtain rfl := Option.some.inj hj
      exact ⟨b, hbn, hB⟩
    · obtain ⟨y, h1, h2⟩ := hR.blk j B' (hold j B' e hj)
      exact ⟨y, by rw [hbo j e]; exact h1, h2.mono hle rfl⟩
  · obtain ⟨B1, g1⟩ := h1
    obtain ⟨B2, g2⟩ := h2
    by_cases e : j = s.nb
    · by_cases e' : j' = s.nb
      · rw [e, e']
      · subst e
        rw [hbn] at h3; obtain rfl := Option.some.inj h3
        rw [hbo j' e'] at h4
        exact absurd h4 (hl j' ⟨B2, hold j' B2 e' g2⟩)
    · by_cases e' : j' = s.nb
      · subst e'
        rw [hbn] at h4; obtain rfl := Option.some.inj h4
        rw [hbo j e] at h3
        exact absurd h3 (hl j ⟨B1, hold j B1 e g1⟩)
      · rw [hbo j e] at h3; rw [hbo j' e'] at h4
        exact hR.inj j j' x ⟨B1, hold j B1 e g1⟩ ⟨B2, hold j' B2 e' g2⟩ h3 h4
  · rw [hiv] at hi
    exact hR.iv i r hi
  · obtain ⟨B1, g1⟩ := h1
    by_cases e : j = s.nb
    · subst e
      rw [hbn] at h2; obtain rfl := Option.some.inj h2
      exact .inr hb
    · rw [hbo j e] at h2
      exact hm.img j x ⟨B1, hold j B1 e g1⟩ h2

theorem placeOk_sound {ops : Array Oper} {F : List Nat} {d : Nat} (h : placeOk ops F (some d) = true) : ∀ i ∈ F, ∃ o t, ops[i]? = some o ∧ o.dst = some t ∧ t ≠ d ∧ ∀ t', Operand.tmp t' ∈ o.op.operands → t' ≠ d := by
  intro i hi
  have h1 := List.all_eq_true.1 h i hi
  split at h1
  · rename_i o ho
    simp only [Bool.and_eq_true] at h1
    obtain ⟨h2, h3⟩ := h1
    split at h2
    · rename_i t ht
      refine ⟨o, t, ho, ht, fun e => by subst e; simp [Nat.beq_refl] at h2, fun t' ht' e => ?_⟩
      have := Array.all_eq_true_iff_forall_mem.1 h3 _ ht'
      subst e
      simp [Nat.beq_refl] at this
    · cases h2
  · cases h1

theorem FV_nf {E : Tr A} {op : Op} {obj : Obj} {mk : Nat → Value} (h : FV P E op = some (obj, mk)) : ∀ c T fz, obj = .cells c T fz → fz = (0, 0) := by
  intro c T fz ho
  subst ho
  unfold FV at h
  split at h
  · split at h
    · simp only [Option.some.injEq, Prod.mk.injEq] at h; cases h.1
    · cases h
  · split at h
    · simp only [Option.some.injEq, Prod.mk.injEq, Obj.cells.injEq] at h; exact h.1.2.2.symm
    · cases h
  · split at h
    · split at h
      · split at h
        · simp only [Option.some.injEq, Prod.mk.injEq, Obj.cells.injEq] at h; exact h.1.2.2.symm
        · cases h
      · cases h
    · cases h
  · cases h
/-- what was done ahead stands behind an operation -/
theorem Done.step {ops : Array Oper} {F : List Nat} {d : Option Nat} (hpl : placeOk ops F d = true) {E E1 : Tr A} {V V1 : Vn} {s s1 : St} {w w1 w0 : World} {e e1 : Env} {D : List (Nat × Nat)} (hd : Done P ops E V s w w0 e D) (hDF : ∀ p ∈ D, p.1 ∈ F)
    (hE : ∀ t, d ≠ some t → E1.get t = E.get t) (he : ∀ t, d ≠ some t → lk e1 t = lk e t) (hm : Mv V s w V1 s1 w1) : Done P ops E1 V1 s1 w1 w0 e1 D := by
  refine ⟨fun p hp => ?_, hd.nd⟩
  obtain ⟨o, t, obj, mk, h1, h2, h3, h4, h5, h6, h7⟩ := hd.each p hp
  have hlt : p.2 < w.heap.size := (Array.getElem?_eq_some_iff.1 h5).1
  have hpo : d ≠ some t ∧ ∀ t', Operand.tmp t' ∈ o.op.operands → d ≠ some t' := by
    cases d with
    | none => exact ⟨by simp, fun _ _ => by simp⟩
    | some d =>
      obtain ⟨o', t', g1, g2, g3, g4⟩ := placeOk_sound hpl p.1 (hDF p hp)
      rw [h1] at g1; obtain rfl := Option.some.inj g1
      rw [h2] at g2; obtain rfl := Option.some.inj g2
      exact ⟨fun e => g3 (Option.some.inj e).symm, fun t'' ht'' e => g4 t'' ht'' (Option.some.inj e).symm⟩
  refine ⟨o, t, obj, mk, h1, h2, ?_, by rw [he t hpo.1]; exact h4, ?_, h6, ?_⟩
  · rw [FV_congr (E := E) (fun t' ht' => hE t' (hpo.2 t' ht'))]; exact h3
  · rw [hm.frame p.2 hlt h7]; exact h5
  · intro id hl hx
    rcases hm.img id p.2 hl hx with ⟨id0, g1, g2⟩ | g
    · exact h7 id0 g1 g2
    · omega

def LRel (V : Vn) : List (Nat × List RA) → List (Nat × List Rd) → Prop
  | [], [] => True
  | (i, a) :: l, (j, r) :: m => i = j ∧ RdsOk V a r ∧ LRel V l m
  | _, _ => False
theorem LRel.mono {V V' : Vn} (h : V.le V') : ∀ {l : List (Nat × List RA)} {m : List (Nat × List Rd)}, LRel V l m → LRel V' l m
  | [], [], _ => trivial
  | (i, a) :: l, (j, r) :: m, ⟨h1, h2, h3⟩ => ⟨h1, h2.mono h, LRel.mono h h3⟩
theorem LRel.keeps {V : Vn} (b : Nat) : ∀ {l : List (Nat × List RA)} {m : List (Nat × List Rd)}, LRel V l m → RdsOk V (keepsX b l) (keeps b m)
  | [], [], _ => trivial
  | (i, a) :: l, (j, r) :: m, ⟨h1, h2, h3⟩ => by
    subst h1
    unfold keepsX SX.keeps
    cases b.testBit i
    · exact RdsOk.append h2 (LRel.keeps b h3)
    · exact LRel.keeps b h3

theorem allM_of {g : Nat → M} {w : World} : ∀ {l : List Nat}, (∀ i ∈ l, g i w) → allM l g w
  | [], _ => trivial
  | [x], h => h x (by simp)
  | x :: y :: l, h => ⟨h x (by simp), allM_of fun i hi => h i (List.mem_cons_of_mem _ hi)⟩

theorem firstQ_filter {q p : Nat → Bool} {i : Nat} : ∀ {l : List Nat}, (∀ x, q x = true → p x = true) → firstQ q l = some i → firstQ q (l.filter p) = some i
  | [], _, h => by cases h
  | x :: l, hp, h => by
    unfold firstQ at h
    cases hq : q x with
    | true =>
      rw [hq] at h
      simp only [Option.some.injEq] at h; subst h
      simp only [List.filter_cons, hp x hq, if_true]
      unfold firstQ; rw [hq]
    | false =>
      rw [hq] at h
      simp only [] at h
      cases hpx : p x
      · simp only [List.filter_cons, hpx, Bool.false_eq_true, if_false]; exact firstQ_filter hp h
      · simp only [List.filter_cons, hpx, if_true]
        unfold firstQ; rw [hq]; exact firstQ_filter hp h
theorem firstQ_none_of {q : Nat → Bool} : ∀ {l : List Nat}, (∀ i ∈ l, q i = false) → firstQ q l = none
  | [], _ => rfl
  | x :: l, h => by unfold firstQ; rw [h x (by simp)]; exact firstQ_none_of fun i hi => h i (List.mem_cons_of_mem _ hi)

section
variable {ops : Array Oper} {B : Array Nat}

theorem regH_quiet {f : Nat} {listed : Array Bool} {lds : List (Nat × List Rd)} {e : Env} {k : Env → M} {w : World} {i : Nat} {o : Oper} (hq : firstQ (quietAt P ops) (Region.ready .any ops listed) = some i) (ho : ops[i]? = some o)
    (h : gd ops.toList o e (fun e => opQ P o.op (evo e) fun v => regH P ops B f (listed.setIfInBounds i true) ((i, readsQ P o.op (evo e)) :: lds) (put o.dst v e) k) (fun e => regH P ops B f (listed.setIfInBounds i true) lds (drop1 o.dst e) k) w) : regH P ops B (f + 1) listed lds e k w := by
  unfold regH
  cases hr : Region.ready .any ops listed with
  | nil => rw [hr] at hq; cases hq
  | cons r rs =>
    rw [hr] at hq
    simp only [hq, ho]
    exact h
theorem regH_eff {f : Nat} {listed : Array Bool} {lds : List (Nat × List Rd)} {e : Env} {k : Env → M} {w : World} (hne : Region.ready .any ops listed ≠ []) (hq : firstQ (quietAt P ops) (Region.ready .any ops listed) = none)
    (h : ∀ i ∈ Region.ready .any ops listed, ∃ o, ops[i]? = some o ∧ gd ops.toList o e (fun e => opE P o.op o.type (evo e) (keeps (B.getD i 0) lds) fun v => regH P ops B f (listed.setIfInBounds i true) lds (put o.dst v e) k) (fun e => regH P ops B f (listed.setIfInBounds i true) lds (drop1 o.dst e) k) w) : regH P ops B (f + 1) listed lds e k w := by
  unfold regH
  cases hr : Region.ready .any ops listed with
  | nil => exact absurd hr hne
  | cons r rs =>
    rw [hr] at hq h
    simp only [hq]
    refine allM_of fun i hi => ?_
    obtain ⟨o, ho, h⟩ := h i hi
    simp only [ho]
    exact h

theorem isF_not_quiet {i : Nat} (h : isF ops i = true) : quietAt P ops i = false := by
  obtain ⟨o, t, h1, _, _, h4⟩ := isF_cases (P := P) h
  unfold quietAt; rw [h1]; exact h4

theorem freeOk_sound {E : Tr A} {F : List Nat} (h : freeOk P ops E F = true) {i : Nat} (hi : i ∈ F) : ∃ o t obj mk, ops[i]? = some o ∧ o.dst = some t ∧ E.get t = none ∧ FV P E o.op = some (obj, mk) := by
  have h1 := List.all_eq_true.1 h i hi
  split at h1
  · rename_i o ho
    simp only [Bool.and_eq_true] at h1
    obtain ⟨h2, h3⟩ := h1
    split at h2
    · rename_i t ht
      split at h2
      · rename_i hE
        split at h3
        · rename_i x hx
          exact ⟨o, t, x.1, x.2, ho, ht, hE, hx⟩
        · cases h3
      · cases h2
    · cases h2
  · cases h1
theorem distF_sound : ∀ {F : List Nat}, distF ops F = true → ∀ i ∈ F, ∀ j ∈ F, i ≠ j → ∀ oi oj t, ops[i]? = some oi → ops[j]? = some oj → oi.dst = some t → oj.dst ≠ some t
  | [], _, i, hi, _, _, _, _, _, _, _, _, _ => by cases hi
  | x :: l, h, i, hi, j, hj, hne, oi, oj, t, hoi, hoj, hti => by
    unfold distF at h
    simp only [Bool.and_eq_true] at h
    obtain ⟨h1, h2⟩ := h
    split at h1
    · rename_i ox hox
      cases hi with
      | head =>
        cases hj with
        | head => exact absurd rfl hne
        | tail _ hj =>
          rw [hox] at hoi; obtain rfl := Option.some.inj hoi
          rw [hti] at h1
          obtain ⟨o', t', g1, g2, g3, _⟩ := placeOk_sound h1 j hj
          rw [hoj] at g1; obtain rfl := Option.some.inj g1
          rw [g2]; exact fun e => g3 (Option.some.inj e)
      | tail _ hi =>
        cases hj with
        | head =>
          rw [hox] at hoj; obtain rfl := Option.some.inj hoj
          intro e
          rw [e] at h1
          obtain ⟨o', t', g1, g2, g3, _⟩ := placeOk_sound h1 i hi
          rw [hoi] at g1; obtain rfl := Option.some.inj g1
          rw [hti] at g2
          exact g3 (Option.some.inj g2).symm
        | tail _ hj => exact distF_sound h2 i hi j hj hne oi oj t hoi hoj hti
    · cases h1

theorem nodup_snd : ∀ {D : List (Nat × Nat)}, (D.map Prod.snd).Nodup → ∀ p ∈ D, ∀ q ∈ D, p.2 = q.2 → p = q
  | [], _, p, hp, _, _, _ => by cases hp
  | x :: D, h, p, hp, q, hq, e => by
    rw [List.map_cons, List.nodup_cons] at h
    cases hp with
    | head =>
      cases hq with
      | head => rfl
      | tail _ hq => exact absurd (List.mem_map.2 ⟨q, hq, e.symm⟩) h.1
    | tail _ hp =>
      cases hq with
      | head => exact absurd (List.mem_map.2 ⟨p, hp, e⟩) h.1
      | tail _ hq => exact nodup_snd h.2 p hp q hq e
/-- what was done ahead is told -/
theorem flush_inv {call : CallX β} : ∀ (F : List Nat) (E : Tr A) (s : St) (k : Tr A → St → Option β) (r : β), (∀ i ∈ F, isF ops i = true ∧ ∃ o x, ops[i]? = some o ∧ FV P E o.op = some x) → F.Nodup → flushX P call ops F E s k = some r →
    ∃ E' s', k E' s' = some r ∧ ∀ V0 s0 w0 V e w (D : List (Nat × Nat)), (∀ i ∈ F, ∃ b, (i, b) ∈ D) → (∀ p ∈ D, p.1 ∈ F) → Done P ops E V s w w0 e D → Mv V0 s0 w0 V s w → ERel V E e → ∃ V', V.le V' ∧ Mv V0 s0 w0 V' s' w ∧ ERel V' E' e
  | [], E, s, k, r, _, _, h => ⟨E, s, h, fun V0 s0 w0 V e w D _ _ _ hm he => ⟨V, Vn.le.refl V, hm, he⟩⟩
  | i :: l, E, s, k, r, hF, hnd, h => by
    unfold flushX at h
    split at h
    · rename_i o ho
      obtain ⟨hpl, h⟩ := ck_inv h
      -- the operation's block, by what it makes
      obtain ⟨hfi, o', x, ho', hfv⟩ := hF i (by simp)
      rw [ho] at ho'; obtain rfl := Option.some.inj ho'
      obtain ⟨o', t, ho', hg, hdst, _⟩ := isF_cases (P := P) hfi
      rw [ho] at ho'; obtain rfl := Option.some.inj ho'
      obtain ⟨obj, mk⟩ := x
      obtain ⟨a, s1, Bk, h, hget, hiv, hnb, hnc, hBk, ha⟩ := F_adopt ho hfi h hfv
      obtain ⟨E1, h, hE1, hE1r⟩ := putX_inv h
      rw [hdst] at hpl
      have hfv1 : ∀ j ∈ l, ∀ oj, ops[j]? = some oj → FV P E1 oj.op = FV P E oj.op := by
        intro j hj oj hoj
        obtain ⟨o', t', g1, _, _, g4⟩ := placeOk_sound hpl j hj
        rw [hoj] at g1; obtain rfl := Option.some.inj g1
        refine FV_congr fun t'' ht'' => ?_
        rw [hE1, if_neg]
        rw [hdst]; exact fun e => g4 t'' ht'' (Option.some.inj e).symm
      obtain ⟨E', s', h, hrest⟩ := flush_inv l E1 s1 k r (fun j hj => by
        obtain ⟨g1, oj, x, g2, g3⟩ := hF j (List.mem_cons_of_mem _ hj)
        exact ⟨g1, oj, x, g2, by rw [hfv1 j hj oj g2]; exact g3⟩) (List.nodup_cons.1 hnd).2 h
      refine ⟨E', s', h, fun V0 s0 w0 V e w D hD hDF hd hm he => ?_⟩
      obtain ⟨b, hb⟩ := hD i (by simp)
      obtain ⟨o2, t2, obj2, mk2, g1, g2, g3, g4, g5, g6, g7⟩ := hd.each _ hb
      rw [ho] at g1; obtain rfl := Option.some.inj g1
      rw [hdst] at g2; obtain rfl := Option.some.inj g2
      rw [hfv] at g3
      simp only [Option.some.injEq, Prod.mk.injEq] at g3
      obtain ⟨rfl, rfl⟩ := g3
      have hn : V.ρ s.nb = none := hm.rel.nb _ (Nat.le_refl _)
      have hle : V.le (V.bind s.nb b) := Vn.le_bind hn
      have hm1 := adopt hm g6 g7 hget hiv hnb hnc (hBk _ _ _ g5)
      have hav : conc (V.bind s.nb b) a = some (mk b) := ha _ _ (by simp [Vn.bind])
      have he1 : ERel (V.bind s.nb b) E1 e := by
        intro t' a' ha'
        rw [hE1] at ha'
        by_cases e1 : o.dst = some t'
        · rw [if_pos e1] at ha'
          obtain rfl := Option.some.inj ha'
          rw [hdst] at e1; obtain rfl := Option.some.inj e1
          exact ⟨_, hav, g4⟩
        · rw [if_neg e1] at ha'
          exact (he.mono hle) t' a' ha'
      obtain ⟨V', h1, h2, h3⟩ := hrest V0 s0 w0 (V.bind s.nb b) e w (D.filter (fun p => decide (p.1 ≠ i))) (fun j hj => by
        obtain ⟨c, hc⟩ := hD j (List.mem_cons_of_mem _ hj)
        refine ⟨c, List.mem_filter.2 ⟨hc, ?_⟩⟩
        have : j ≠ i := fun e => (List.nodup_cons.1 hnd).1 (e ▸ hj)
        simp [this]) (fun p hp => by
        obtain ⟨hp1, hp2⟩ := List.mem_filter.1 hp
        have hne : p.1 ≠ i := by simpa using hp2
        cases hDF p hp1 with
        | head => exact absurd rfl hne
        | tail _ h => exact h) (by
        refine ⟨fun p hp => ?_, ?_⟩
        · obtain ⟨hp1, hp2⟩ := List.mem_filter.1 hp
          have hne : p.1 ≠ i := by simpa using hp2
          have hpl' : p.1 ∈ l := by
            have h0 := hDF p hp1
            rcases List.mem_cons.1 h0 with h0 | h0
            · exact absurd h0 hne
            · exact h0
          obtain ⟨o3, t3, obj3, mk3, f1, f2, f3, f4, f5, f6, f7⟩ := hd.each p hp1
          refine ⟨o3, t3, obj3, mk3, f1, f2, by rw [hfv1 _ hpl' o3 f1]; exact f3, f4, f5, f6, fun id hl hx => ?_⟩
          by_cases e1 : id = s.nb
          · subst e1
            simp only [Vn.bind, if_true, Option.some.injEq] at hx
            have := nodup_snd hd.nd _ hb p hp1 hx
            exact hne (by rw [← this])
          · simp only [Vn.bind, e1, if_false] at hx
            obtain ⟨B', hB'⟩ := hl
            rw [hget, if_neg e1] at hB'
            exact f7 id ⟨B', hB'⟩ hx
        · exact List.Sublist.nodup (List.Sublist.map _ List.filter_sublist) hd.nd) hm1 he1
      exact ⟨V', hle.trans h1, h2, h3⟩
    · cases h

end
end Go.XC
