/- XS: the executor is sound: built-in functions, ranges, calls. -/
import Derived.Test.YtlcaelckplknnaaGreatDoorXS6
set_option linter.unusedVariables false
set_option linter.unusedSimpArgs false
namespace Go.XC
open Go Go.SX
variable {β : Type} {P : Program}

theorem mdelX_inv {s : St} {kT : TypeId} {m key : A} {k : St → Option β} {r : β} (h : mdelX P s kT m key k = some r) :
    ∃ s', k s' = some r ∧ ∀ V w um uk (K : M), Rel V s w → conc V m = some um → conc V key = some uk → (∀ w', Mv V s w V s' w' → K w') → ∃ q, um = .map q ∧ mdel P kT q uk K w := by
  unfold mdelX at h
  split at h
  · split at h
    · rename_i b _ es c hB
      obtain ⟨x, h, hx⟩ := findX_res h
      have base : ∀ V w um uk, Rel V s w → conc V (.mp b) = some um → conc V key = some uk → ∃ y es', V.ρ b = some y ∧ um = .map (some y) ∧ w.heap[y]? = some (.map es'.toArray c) ∧ ER V es es' ∧
          ∃ x', (∀ em w, (Instr.checkKey em 10000 kT uk).run P w = .ok () w) ∧ (∀ w, (Instr.findKey kT uk es').run P w = .ok x' w) ∧ FRes V es key x x' := by
        intro V w um uk hR hm hk
        obtain ⟨y, hy, es', h1, h2, h3⟩ := hR.blk _ _ hB
        simp only [conc, hy, Option.map_some, Option.some.injEq] at hm
        exact ⟨y, es', hy, hm.symm, h1, ⟨h2, h3⟩, hx V es' uk hk ⟨h2, h3⟩⟩
      cases x with
      | none =>
        refine ⟨s, h, fun V w um uk K hR hm hk hK => ?_⟩
        obtain ⟨y, es', hy, rfl, h1, h2, x', h3, h4, h5⟩ := base V w um uk hR hm hk
        have h5 : x' = none := h5
        subst h5
        refine ⟨_, rfl, y, es'.toArray, c, none, rfl, h1, fun w => ⟨h3 _ w, h4 w⟩, hK _ (Mv.refl hR ?_ (Rest.setO h1 (by simp) (by simp)))⟩
        apply Array.ext_getElem?
        intro j
        rw [setO_heap]
        split
        · rename_i hh; obtain ⟨rfl, _⟩ := hh; exact h1.symm
        · rfl
      | some x =>
        obtain ⟨i, a⟩ := x
        obtain ⟨hi, h⟩ := delE_inv _ _ _ _ h
        obtain ⟨s', h, hget, hiv, hnb, hnc⟩ := setBK_inv h
        refine ⟨s', h, fun V w um uk K hR hm hk hK => ?_⟩
        obtain ⟨y, es', hy, rfl, h1, h2, x', h3, h4, v0, h5, rfl, e, kd, n, h6, h7, h8, h9⟩ := base V w um uk hR hm hk
        refine ⟨_, rfl, y, es'.toArray, c, some (i, v0), rfl, h1, fun w => ⟨h3 _ w, h4 w⟩, hK _ ?_⟩
        have hi' : i < es'.length := by rw [h2.1]; exact hi
        refine mv_setO hR hB hy hget hiv hnb hnc h1 (by simp) (by simp) ⟨es'.eraseIdx i, ?_, ?_, ?_⟩
        · rw [setO_self h1]; simp [Array.eraseIdxIfInBounds, hi']
        · rw [List.length_eraseIdx_of_lt hi, List.length_eraseIdx_of_lt hi', h2.1]
        · intro j e hj
          rw [List.getElem?_eraseIdx] at hj ⊢
          by_cases hij : j < i
          · rw [if_pos hij] at hj ⊢; exact h2.2 j e hj
          · rw [if_neg hij] at hj ⊢; exact h2.2 (j + 1) e hj
    · cases h
  · cases h

/-- a slice's cells -/
theorem rdSlK_inv {s : St} {y : A} {m sz : Nat} (hm : lenA y = some m) {k : List A → Option β} {r : β} (h : rdSlK s y sz k = some r) :
    ∃ news, k news = some r ∧ news.length = m * sz ∧ ∀ V w v, Rel V s w → conc V y = some v → ∃ q c, v = .slice q m c ∧ ∃ us, concL V news = some us ∧ ∀ (K : List Value → M), K us w → rdS q m sz K w := by
  unfold rdSlK at h
  split at h
  · simp only [lenA, Option.some.injEq] at hm; subst hm
    refine ⟨[], h, by simp, fun V w v hR hv => ?_⟩
    have := lit_conc hv; subst this
    exact ⟨none, _, rfl, [], by simp [concL], fun K hK => hK⟩
  · simp only [lenA, Option.some.injEq] at hm; subst hm
    obtain ⟨as, h, hl, hr⟩ := rdNK_inv _ _ _ _ h
    refine ⟨as, h, hl, fun V w v hR hv => ?_⟩
    simp only [conc, Option.bind_eq_some_iff, Option.map_eq_some_iff] at hv
    obtain ⟨x, hx, c, hc, rfl⟩ := hv
    obtain ⟨us, h1, h2⟩ := rdN_sound' hR hx as _ hr
    refine ⟨_, _, rfl, us, h1, fun K hK => ⟨us, by rw [concL_length h1, hl], fun i hi => ?_, hK⟩⟩
    rw [add_mk]; exact h2 i (by rw [hl]; exact hi)
  · cases h

theorem repV_len (z : List Value) (n : Nat) : (repV n z).length = n * z.length := repV_length z n

/-- a new row for an append -/
theorem freshX_inv {s : St} {e sz bytes l : Nat} {olds news : List A} {k : A → St → Option β} {r : β} (h : freshX s e sz bytes l olds news k = some r) :
    ∃ a s', k a s' = some r ∧ (l * bytes * 2 ≤ 140737488355328 ∧ l < 70368744177664 ∧ 0 < bytes) ∧ ∃ B, a = .sl s.nb 0 l (.v s.nc) ∧ (∀ j, s'.h.get j = if j = s.nb then some B else s.h.get j) ∧ s'.iv = s.iv ∧ s'.nb = s.nb + 1 ∧ s'.nc = s.nc + 1 ∧ allOk1 (olds ++ news) = true ∧ (olds ++ news).length = l * sz ∧
      ∀ V w x us (c : Array Value), concL V (olds ++ news) = some us → w.heap[x]? = some (.cells c e) → us.length ≤ c.size → (∀ i, i < us.length → c[i]? = us[i]?) → (∃ q, V.ν s.nc = some q ∧ c.size = q * sz) → BlkOk V w x B := by
  obtain ⟨h1, h⟩ := ck_inv h
  simp only [Bool.and_eq_true] at h1
  have h := appK_inv _ _ _ h
  obtain ⟨h2, h⟩ := ck_inv h
  obtain ⟨s', B, h, hok, hget, hiv, hnb, hnc, hB⟩ := laidK_inv h
  have h := fN_inv h
  refine ⟨_, s', h, ⟨Nat.le_of_ble_eq_true h1.1.1, Nat.le_of_ble_eq_true h1.1.2, Nat.le_of_ble_eq_true h1.2⟩, B, rfl, hget, hiv, hnb, hnc, hok, beq_iff h2, fun V w x us c hv hw hs hc hq => ?_⟩
  exact hB V w x us c hv hw hs hc (fun j sz' ht => by simp only [Option.some.injEq, Prod.mk.injEq] at ht; obtain ⟨rfl, rfl⟩ := ht; exact hq)

/-- a fresh row, in the world -/
theorem fresh_mv {s s1 s' : St} {e sz l : Nat} {olds news : List A} {B : Blk} (hget : ∀ j, s'.h.get j = if j = s.nb then some B else s.h.get j) (hiv : s'.iv = s.iv) (hnb : s'.nb = s.nb + 1) (hnc : s'.nc = s.nc + 1) (hlen : (olds ++ news).length = l * sz)
    (hB : ∀ V w x us (c : Array Value), concL V (olds ++ news) = some us → w.heap[x]? = some (.cells c e) → us.length ≤ c.size → (∀ i, i < us.length → c[i]? = us[i]?) → (∃ q, V.ν s.nc = some q ∧ c.size = q * sz) → BlkOk V w x B)
    {V : Vn} {w : World} {z os ns : List Value} (hz : z.length = sz) (hR : Rel V s1 w) (e1 : s1.nb = s.nb) (e2 : s1.nc = s.nc) (e3 : s1.iv = s.iv) (hsub : ∀ j B, s.h.get j = some B → s1.h.get j = some B) (ho : concL V olds = some os) (hns : concL V news = some ns)
    (c : Nat) (hc : l ≤ c) : ∃ V', Mv V s1 w V' s' (w.drew.alloc (.cells ((os ++ ns) ++ repV (c - l) z).toArray e)) ∧ conc V' (.sl s.nb 0 l (.v s.nc)) = some (.slice (some ⟨w.heap.size, 0, none⟩) l c) := by
  have hnb0 : V.ρ s.nb = none := hR.nb _ (by omega)
  have hnc0 : V.ν s.nc = none := hR.nc _ (by omega)
  have hle1 : V.le (V.cap s.nc c) := Vn.le_cap hnc0
  have hle : V.le ((V.cap s.nc c).bind s.nb w.heap.size) := hle1.trans (Vn.le_bind hnb0)
  refine ⟨(V.cap s.nc c).bind s.nb w.heap.size, ?_, ?_⟩
  · have hcon := concL_append ho hns
    have hl2 := concL_length hcon
    have hsz : ((os ++ ns) ++ repV (c - l) z).toArray.size = c * sz := by
      rw [List.size_toArray, List.length_append, hl2, repV_len, hz, hlen, ← Nat.add_mul]
      congr 1; omega
    refine mv_put hR hle s.nb w.heap.size (by rw [hiv, e3]) ?_ ?_ (by simp [Vn.bind]) ?_ ?_ ?_ (.inr (Nat.le_refl _)) ?_ ?_
    · intro j hj
      rw [hnb] at hj
      have : j ≠ s.nb := by omega
      simp [Vn.bind, Vn.cap, this, hR.nb j (by omega)]
    · intro j hj
      rw [hnc] at hj
      have : j ≠ s.nc := by omega
      simp [Vn.bind, Vn.cap, this, hR.nc j (by omega)]
    · intro B' hB'
      rw [hget, if_pos rfl] at hB'
      obtain rfl := Option.some.inj hB'
      refine hB _ _ _ (os ++ ns) ((os ++ ns) ++ repV (c - l) z).toArray (concL_mono hle _ _ hcon) (by show (w.heap.push _)[w.heap.size]? = _; simp) (by simp) (fun i hi => ?_) ⟨c, by simp [Vn.bind, Vn.cap], hsz⟩
      rw [List.getElem?_toArray, List.getElem?_append_left hi]
    · intro j B' hj hB'
      rw [hget, if_neg hj] at hB'
      refine ⟨hsub j B' hB', fun e => ?_⟩
      obtain ⟨b, h1, h2⟩ := hR.blk j B' (hsub j B' hB')
      rw [e] at h1; obtain rfl := Option.some.inj h1
      exact absurd h2.lt (Nat.lt_irrefl _)
    · intro b hb hne
      show (w.heap.push _)[b]? = _
      rw [Array.getElem?_push, if_neg hne]
    · exact (Rest.of_heap (w := w) (w' := w.drew) rfl rfl rfl rfl).trans (Rest.alloc _ _)
    · exact fun a ha => frozen_push (w := w) rfl (fun c T fz h => by cases h; rfl) a ha
  · exact conc_slv (by simp [Vn.bind]) (by simp [Vn.bind, Vn.cap])

theorem ble_false {a b : Nat} (h : Nat.ble a b = false) : ¬ a ≤ b := fun e => by rw [Nat.ble_eq_true_of_le e] at h; cases h
theorem apd_in {e sz bytes : Nat} {z : List Value} {s x : Sl} {k : Sl → M} {w : World} (hb : s.len + x.len ≤ s.cap) (h : rdS x.a x.len sz (fun news => match s.a with
      | some a => stN (a.add (s.len * sz)) news (k ⟨s.a, s.len + x.len, s.cap⟩)
      | none => rq (news = []) (k ⟨s.a, s.len + x.len, s.cap⟩)) w) : apd e sz bytes z s x k w := by
  unfold apd; rw [if_pos hb]; exact h
theorem apd_out {e sz bytes : Nat} {z : List Value} {s x : Sl} {k : Sl → M} {w : World} (hb : ¬ s.len + x.len ≤ s.cap) (h : rdS s.a s.len sz (fun olds => rdS x.a x.len sz fun news =>
      rq ((s.len + x.len) * bytes * 2 ≤ 2 ^ 47 ∧ s.len + x.len < 2 ^ 46 ∧ 0 < bytes) fun w =>
        ∀ c, s.len + x.len ≤ c → c < 2 ^ 63 → k ⟨some ⟨w.heap.size, 0, none⟩, s.len + x.len, c⟩ (w.drew.alloc (.cells ((olds ++ news) ++ repV (c - (s.len + x.len)) z).toArray e))) w) : apd e sz bytes z s x k w := by
  unfold apd; rw [if_neg hb]; exact h
theorem apdV_inv {s : St} {e sz bytes b l0 j m : Nat} {y : A} {news : List A} {k : A → St → Option β} {r : β}
    (h : (match s.h.get b with
      | some (.cells T n' _ _ (some (j', sz'))) => ck (Nat.beq j j' && Nat.beq sz sz' && Nat.beq T e && Nat.beq n' (l0 * sz)) <| rdNK s b 0 (l0 * sz) fun olds => setBK s b none fun s => freshX s e sz bytes (l0 + m) olds news k
      | _ => none) = some r) (hnl : news.length = m * sz)
    (hnews : ∀ V w v, Rel V s w → conc V y = some v → ∃ q c, v = .slice q m c ∧ ∃ us, concL V news = some us ∧ ∀ (K : List Value → M), K us w → rdS q m sz K w) :
    ∃ a s', k a s' = some r ∧ ∀ V w (z : List Value) vx vy (K : Sl → M), z.length = sz → Rel V s w → conc V (.sl b 0 l0 (.v j)) = some vx → conc V y = some vy →
      (∀ V' q n c w', Mv V s w V' s' w' → conc V' a = some (.slice q n c) → K ⟨q, n, c⟩ w') →
      ∃ q n c q' n' c', vx = .slice q n c ∧ vy = .slice q' n' c' ∧ apd e sz bytes z ⟨q, n, c⟩ ⟨q', n', c'⟩ K w := by
  split at h
  · rename_i hB
    obtain ⟨h0, h9⟩ := ck_inv h
    clear h
    simp only [Bool.and_eq_true] at h0
    obtain ⟨⟨⟨g1, g2⟩, g3⟩, g4⟩ := h0
    have g1 := beq_iff g1; have g2 := beq_iff g2; have g3 := beq_iff g3; have g4 := beq_iff g4
    subst g1 g2 g3
    obtain ⟨olds, h, hol, hor⟩ := rdNK_inv _ _ _ _ h9
    obtain ⟨s1, h, hget1, hiv1, hnb1, hnc1⟩ := setBK_inv h
    have hsub : ∀ j B, s1.h.get j = some B → s.h.get j = some B := by
      intro i B hi
      rw [hget1] at hi
      split at hi
      · cases hi
      · exact hi
    obtain ⟨a2, s2, h', hnum, B, ha2, hget, hiv, hnb, hnc, hok, hlen, hBk⟩ := freshX_inv h
    refine ⟨a2, s2, h', fun V w z vx vy K hz hR hx hy hK => ?_⟩
    simp only [conc, concC, Option.bind_eq_some_iff, Option.map_eq_some_iff] at hx
    obtain ⟨x0, hx0, c0, hc0, rfl⟩ := hx
    obtain ⟨q', c', rfl, us, hus, hrd⟩ := hnews V w vy hR hy
    obtain ⟨os, hos, hoc⟩ := rdN_sound' hR hx0 olds _ hor
    obtain ⟨x1, hx1, cc, e1, e2, e3, q0, e4, e5⟩ := hR.blk _ _ hB
    rw [hx0] at hx1; obtain rfl := Option.some.inj hx1
    rw [hc0] at e4; obtain rfl := Option.some.inj e4
    refine ⟨_, _, _, _, _, _, rfl, rfl, ?_⟩
    by_cases hroom : l0 + m ≤ c0
    · -- there is room: the same block
      refine apd_in hroom ?_
      refine hrd _ ?_
      simp only [add_mk, Nat.zero_add]
      have hul := concL_length hus
      have hsz : l0 * sz + us.length ≤ cc.size := by
        rw [hul, hnl, e5, ← Nat.add_mul]
        exact Nat.mul_le_mul_right _ hroom
      have hnl' : allOk1 news = true := by
        have app : ∀ (x y : List A), allOk1 (x ++ y) = true → allOk1 y = true := by
          intro x y
          induction x with
          | nil => exact fun h => h
          | cons a x ih =>
            intro h
            rw [List.cons_append] at h
            unfold allOk1 at h
            split at h
            · exact ih h
            · cases h
        exact app _ _ hok
      refine ⟨fun i hi => ?_, allOk1_sound hnl' hus, ?_⟩
      · rw [add_mk]
        have hlt : l0 * sz + i < cc.size := by omega
        exact ⟨⟨cc[l0 * sz + i], by rw [cell_at e1]; simp [hlt]⟩, frozen00 e1⟩
      · obtain ⟨c'', f1, f2, f3, f4⟩ := setN_heap (x := x0) (o := l0 * sz) us 0 w cc e1
        have hnb0 : V.ρ s1.nb = none := hR.nb _ (by omega)
        have hnc0 : V.ν s1.nc = none := hR.nc _ (by omega)
        have hle : V.le ((V.cap s1.nc c0).bind s1.nb x0) := (Vn.le_cap hnc0).trans (Vn.le_bind hnb0)
        refine hK ((V.cap s1.nc c0).bind s1.nb x0) _ _ _ _ (mv_put hR hle s1.nb x0 (by rw [hiv, hiv1]) ?_ ?_ (by simp [Vn.bind]) ?_ ?_ (fun y _ hy => f4 y hy) (.inl ⟨b, ⟨_, hB⟩, hx0⟩) (Rest.setN us 0 w) (fun a ha => frozen_none (by rw [size_setN]; exact ha))) (by rw [ha2]; exact conc_slv (by simp [Vn.bind]) (by simp [Vn.bind, Vn.cap]))
        · intro i hi
          rw [hnb] at hi
          have : i ≠ s1.nb := by omega
          simp [Vn.bind, Vn.cap, this, hR.nb i (by omega)]
        · intro i hi
          rw [hnc] at hi
          have : i ≠ s1.nc := by omega
          simp [Vn.bind, Vn.cap, this, hR.nc i (by omega)]
        · intro B' hB'
          rw [hget, if_pos rfl] at hB'
          obtain rfl := Option.some.inj hB'
          have hcon := concL_append hos hus
          have hol' := concL_length hos
          refine hBk _ _ _ (os ++ us) c'' (concL_mono hle _ _ hcon) f1 ?_ (fun i hi => ?_) ⟨c0, by simp [Vn.bind, Vn.cap], by rw [f2, e5]⟩
          · rw [List.length_append, hol', hol, f2]; exact hsz
          · rw [f3 i, Nat.add_zero]
            rw [List.length_append] at hi
            by_cases hlt : i < l0 * sz
            · rw [if_neg (by omega), List.getElem?_append_left (by rw [hol', hol]; exact hlt)]
              have := hoc i (by rw [hol]; exact hlt)
              rw [Nat.zero_add, cell_at e1] at this
              exact this
            · rw [if_pos (by rw [hol', hol] at hi; omega), List.getElem?_append_right (by rw [hol', hol]; omega), hol', hol]
        · intro i B' hi hB'
          rw [hget, if_neg hi] at hB'
          have := hget1 i
          rw [hB'] at this
          by_cases hib : i = b
          · rw [if_pos hib] at this; cases this
          · exact ⟨hsub i B' hB', fun e => hib (hR.inj i b x0 ⟨B', hsub i B' hB'⟩ ⟨_, hB⟩ e hx0)⟩
    · refine apd_out hroom ?_
      refine ⟨os, by rw [concL_length hos, hol], fun i hi => by rw [add_mk]; exact hoc i (by rw [hol]; exact hi), ?_⟩
      refine hrd _ ⟨hnum, fun c hc _ => ?_⟩
      obtain ⟨V', h1, h2⟩ := fresh_mv (s1 := s) hget hiv hnb hnc hlen hBk hz hR (by rw [hnb1]) (by rw [hnc1]) (by rw [hiv1]) hsub hos hus c hc
      exact hK V' _ _ _ _ h1 (by rw [ha2]; exact h2)
  · cases h

theorem apdX_inv {s : St} {e sz bytes : Nat} {x y : A} {k : A → St → Option β} {r : β} (h : apdX s e sz bytes x y k = some r) :
    ∃ a s', k a s' = some r ∧ ∀ V w (z : List Value) vx vy (K : Sl → M), z.length = sz → Rel V s w → conc V x = some vx → conc V y = some vy →
      (∀ V' q n c w', Mv V s w V' s' w' → conc V' a = some (.slice q n c) → K ⟨q, n, c⟩ w') →
      ∃ q n c q' n' c', vx = .slice q n c ∧ vy = .slice q' n' c' ∧ apd e sz bytes z ⟨q, n, c⟩ ⟨q', n', c'⟩ K w := by
  obtain ⟨n, hn, h⟩ := oK_inv h
  obtain ⟨m, hm, h⟩ := oK_inv h
  obtain ⟨news, h, hnl, hnews⟩ := rdSlK_inv hm h
  split at h
  · simp only [lenA, Option.some.injEq] at hn; subst hn
    split at h
    · rename_i hb
      have hb := Nat.le_of_ble_eq_true hb
      split at h
      · have h := fN_inv h
        refine ⟨_, s, h, fun V w z vx vy K hz hR hx hy hK => ?_⟩
        have := lit_conc hx; subst this
        obtain ⟨q', c', rfl, us, hus, hrd⟩ := hnews V w vy hR hy
        simp only [concL, Option.some.injEq] at hus; subst hus
        refine ⟨_, _, _, _, _, _, rfl, rfl, ?_⟩
        refine apd_in hb ?_
        refine hrd _ ⟨rfl, hK V _ _ _ w (Mv.refl hR rfl (Rest.refl w)) rfl⟩
      · cases h
    · rename_i hb
      have hb := ble_false hb
      obtain ⟨h0, h⟩ := ck_inv h
      have h0 := beq_iff h0
      subst h0
      obtain ⟨a, s', h, hnum, B, rfl, hget, hiv, hnb, hnc, hok, hlen, hBk⟩ := freshX_inv h
      refine ⟨_, s', h, fun V w z vx vy K hz hR hx hy hK => ?_⟩
      have := lit_conc hx; subst this
      obtain ⟨q', c', rfl, us, hus, hrd⟩ := hnews V w vy hR hy
      refine ⟨_, _, _, _, _, _, rfl, rfl, ?_⟩
      refine apd_out hb ?_
      refine hrd _ ⟨hnum, fun c hc _ => ?_⟩
      obtain ⟨V', h1, h2⟩ := fresh_mv (s1 := s) (os := []) hget hiv hnb hnc hlen hBk hz hR rfl rfl rfl (fun _ _ h => h) (by simp [concL]) hus c hc
      exact hK V' _ _ _ _ h1 h2
  · simp only [lenA, Option.some.injEq] at hn; subst hn
    split at h
    · rename_i hb
      have hb := Nat.le_of_ble_eq_true hb
      obtain ⟨s', h, hs⟩ := stX_inv h
      have h := fN_inv h
      refine ⟨_, s', h, fun V w z vx vy K hz hR hx hy hK => ?_⟩
      simp only [conc, concC, Option.map_some, Option.bind_eq_some_iff, Option.some.injEq] at hx
      obtain ⟨x0, hx0, rfl⟩ := hx
      obtain ⟨q', c', rfl, us, hus, hrd⟩ := hnews V w vy hR hy
      refine ⟨_, _, _, _, _, _, rfl, rfl, ?_⟩
      refine apd_in hb ?_
      refine hrd _ ?_
      simp only [add_mk]
      exact hs V w x0 us _ hR hx0 hus (fun w' hm => hK V _ _ _ w' hm (conc_sln hx0))
    · rename_i hb
      have hb := ble_false hb
      obtain ⟨olds, h, hol, hor⟩ := rdNK_inv _ _ _ _ h
      obtain ⟨a, s', h, hnum, B, rfl, hget, hiv, hnb, hnc, hok, hlen, hBk⟩ := freshX_inv h
      refine ⟨_, s', h, fun V w z vx vy K hz hR hx hy hK => ?_⟩
      simp only [conc, concC, Option.map_some, Option.bind_eq_some_iff, Option.some.injEq] at hx
      obtain ⟨x0, hx0, rfl⟩ := hx
      obtain ⟨q', c', rfl, us, hus, hrd⟩ := hnews V w vy hR hy
      obtain ⟨os, hos, hoc⟩ := rdN_sound' hR hx0 olds _ hor
      refine ⟨_, _, _, _, _, _, rfl, rfl, ?_⟩
      refine apd_out hb ?_
      refine ⟨os, by rw [concL_length hos, hol], fun i hi => by rw [add_mk]; exact hoc i (by rw [hol]; exact hi), ?_⟩
      refine hrd _ ⟨hnum, fun c hc _ => ?_⟩
      obtain ⟨V', h1, h2⟩ := fresh_mv (s1 := s) hget hiv hnb hnc hlen hBk hz hR rfl rfl rfl (fun _ _ h => h) hos hus c hc
      exact hK V' _ _ _ _ h1 h2
  · simp only [lenA, Option.some.injEq] at hn; subst hn
    exact apdV_inv h hnl hnews
  · cases h

end Go.XC
