/- XS: the executor is sound: operations that do something. -/
import Derived.Test.YtlcaelckplknnaaGreatDoorXS5
set_option linter.unusedVariables false
set_option linter.unusedSimpArgs false
namespace Go.XC
open Go Go.SX
variable {β : Type} {P : Program}

/-- what an operation that does something comes to -/
def SE (P : Program) (op : Op) (ty : TypeId) (E : Tr A) (s : St) (a : A) (s' : St) : Prop := ∀ V e w (ks : List Rd) (K : Value → M), ERel V E e → Rel V s w →
  (∀ V' v w', Mv V s w V' s' w' → conc V' a = some v → (∀ r ∈ ks, r.same w w') ∧ K v w') → opE P op ty (evo e) ks K w

def CallOk (P : Program) (call : CallX β) : Prop := ∀ f args s k r, call f args s k = some r → ∃ a s', k a s' = some r ∧
  ∀ V w vs, Rel V s w → concL V args = some vs → cl P f vs (fun v w' => ∃ V', Mv V s w V' s' w' ∧ conc V' a = some v) w

theorem kpw_mk {ks : List Rd} {K : Value → M} {w w' : World} {v : Value} (h : (∀ r ∈ ks, r.same w w') ∧ K v w') : kpw ks K w v w' := by
  cases ks with
  | nil => exact h.2
  | cons r l => exact h

theorem conc_ptr {V : Vn} {b o x : Nat} (h : V.ρ b = some x) : conc V (.ptr b o) = some (.pointer (some ⟨x, o, none⟩)) := by simp [conc, h]
theorem conc_mp {V : Vn} {b x : Nat} (h : V.ρ b = some x) : conc V (.mp b) = some (.map (some x)) := by simp [conc, h]
theorem conc_sln {V : Vn} {b o n c x : Nat} (h : V.ρ b = some x) : conc V (.sl b o n (.n c)) = some (.slice (some ⟨x, o, none⟩) n c) := by simp [conc, h, concC]
theorem conc_slv {V : Vn} {b o n j c x : Nat} (h : V.ρ b = some x) (hc : V.ν j = some c) : conc V (.sl b o n (.v j)) = some (.slice (some ⟨x, o, none⟩) n c) := by simp [conc, h, concC, hc]
theorem conc_undef {V : Vn} {v : Value} (h : conc V undefA = some v) : v = undefV := by
  simp [undefA, conc, concL] at h; simp [undefV, ← h]
theorem conc_undef' (V : Vn) : conc V undefA = some undefV := by simp [undefA, conc, concL, undefV]

theorem concL_rep {V : Vn} {l : List A} {vs : List Value} (h : concL V l = some vs) : ∀ (n : Nat) (k : List A → Option β) (r : β), repA l n k = some r → ∃ m, k m = some r ∧ concL V m = some (repV n vs) ∧ m.length = n * l.length
  | 0, k, r, hk => ⟨[], hk, by simp [concL, repV], by simp⟩
  | n + 1, k, r, hk => by
    have app : ∀ (x y : List A) (k : List A → Option β), appK x y k = some r → k (x ++ y) = some r := by
      intro x
      induction x with
      | nil => intro y k h; exact h
      | cons a x ih => intro y k h; exact ih y _ h
    obtain ⟨m, h1, h2, h3⟩ := concL_rep h n _ r hk
    exact ⟨_, app _ _ _ h1, concL_append h h2, by simp [h3, Nat.succ_mul, Nat.add_comm]⟩
theorem repA_inv {l : List A} (n : Nat) (k : List A → Option β) (r : β) (h : repA l n k = some r) : ∃ m, k m = some r ∧ ∀ V vs, concL V l = some vs → concL V m = some (repV n vs) := by
  induction n generalizing k with
  | zero => exact ⟨[], h, fun V vs _ => by simp [concL, repV]⟩
  | succ n ih =>
    have app : ∀ (x y : List A) (k : List A → Option β), appK x y k = some r → k (x ++ y) = some r := by
      intro x
      induction x with
      | nil => intro y k h; exact h
      | cons a x ih => intro y k h; exact ih y _ h
    obtain ⟨m, h1, h2⟩ := ih _ h
    exact ⟨_, app _ _ _ h1, fun V vs hv => concL_append hv (h2 V vs hv)⟩
theorem appK_inv {r : β} : ∀ (x y : List A) (k : List A → Option β), appK x y k = some r → k (x ++ y) = some r
  | [], y, k, h => h
  | a :: x, y, k, h => appK_inv x y _ h

theorem infoX_inv {T : TypeId} {k : Nat → Nat → List Value → Option β} {r : β} (h : infoX P T k = some r) :
    ∃ sz bytes z, k sz bytes z = some r ∧ z.length = sz ∧ ∀ (K : Nat → Nat → List Value → M) w, K sz bytes z w → infoM P T K w := by
  unfold infoX at h
  split at h
  · rename_i i z hi hz
    obtain ⟨h1, h⟩ := ck_inv h
    refine ⟨_, _, _, h, beq_iff h1, fun K w hK => ?_⟩
    unfold infoM; rw [hi, hz]; simp only [h1]; exact hK
  · cases h

theorem sE_alloc {T : TypeId} {E : Tr A} {s : St} {k : A → St → Option β} {r : β} (h : eAlloc P T E s k = some r) {ty : TypeId} : ∃ a s', k a s' = some r ∧ SE P (.alloc T) ty E s a s' := by
  obtain ⟨z, hz, h⟩ := oK_inv h
  obtain ⟨za, h, hza⟩ := ofVsK_inv _ _ _ h
  obtain ⟨s', h, hs⟩ := al_new h
  refine ⟨_, s', h, fun V e w ks K he hR hK => ?_⟩
  simp only [opE, hz]
  exact hs V w z (fun a => K (.pointer (some a))) hR (hza V) (fun V' w' x hm hx => (hK V' _ w' hm (conc_ptr hx)).2)

theorem sE_box {T : TypeId} {x : Operand} {E : Tr A} {s : St} {k : A → St → Option β} {r : β} (h : eBox T x E s k = some r) {ty : TypeId} : ∃ a s', k a s' = some r ∧ SE P (.box T x) ty E s a s' := by
  obtain ⟨a, h, ha⟩ := evK_inv h
  obtain ⟨cs, hcs, h⟩ := oK_inv h
  obtain ⟨s', h, hs⟩ := al_new h
  refine ⟨_, s', h, fun V e w ks K he hR hK => ?_⟩
  obtain ⟨v, h1, h2⟩ := ha V e he
  refine w1_some h2 ?_
  exact hs V w _ (fun a => K (.pointer (some a))) hR (cells_sound hcs h1) (fun V' w' x hm hx => (hK V' _ w' hm (conc_ptr hx)).2)

theorem sE_bslice {T : TypeId} {len : Nat} {parts : Array (Nat × Operand)} {E : Tr A} {s : St} {k : A → St → Option β} {r : β} (h : eBslice P T len parts E s k = some r) {ty : TypeId} : ∃ a s', k a s' = some r ∧ SE P (.buildSlice T len parts) ty E s a s' := by
  obtain ⟨ps, h, hps⟩ := evpsK_inv _ _ _ h
  split at h
  · rename_i e hu
    obtain ⟨sz, bytes, z, h, hzl, hinf⟩ := infoX_inv h
    obtain ⟨h1, h⟩ := ck_inv h
    obtain ⟨za, h, hza⟩ := ofVsK_inv _ _ _ h
    obtain ⟨cs, h, hcs⟩ := repA_inv _ _ _ h
    obtain ⟨cs', h, _, hf⟩ := fillK_inv _ _ _ _ h
    obtain ⟨s', h, hs⟩ := al_new h
    refine ⟨_, s', h, fun V e w ks K he hR hK => ?_⟩
    obtain ⟨us, h2, h3⟩ := hps V e he
    obtain ⟨ws, h4, h5⟩ := hf V _ us (hcs V z (hza V)) h2
    simp only [opE, h3, hu]
    refine hinf _ w ?_
    rw [repC_eq]
    simp only [h1, h4]
    exact hs V w ws (fun a => K (.slice (some a) len len)) hR h5 (fun V' w' x hm hx => (hK V' _ w' hm (conc_sln hx)).2)
  · cases h

theorem sE_mslice {T : TypeId} {l c : Operand} {E : Tr A} {s : St} {k : A → St → Option β} {r : β} (h : eMslice P T l c E s k = some r) {ty : TypeId} : ∃ a s', k a s' = some r ∧ SE P (.makeSlice T l c) ty E s a s' := by
  obtain ⟨la, h, hl⟩ := evK_inv h
  obtain ⟨ln, hln, h⟩ := oK_inv h
  obtain ⟨ca, h, hc⟩ := evK_inv h
  obtain ⟨cn, hcn, h⟩ := oK_inv h
  split at h
  · rename_i e hu
    obtain ⟨sz, bytes, z, h, hzl, hinf⟩ := infoX_inv h
    obtain ⟨h1, h⟩ := ck_inv h
    simp only [Bool.and_eq_true, leI_iff'] at h1
    obtain ⟨za, h, hza⟩ := ofVsK_inv _ _ _ h
    obtain ⟨h2, h⟩ := ck_inv h
    have h := fN_inv h
    have h := fN_inv h
    have h := fN_inv h
    obtain ⟨s', h, hget, hiv, hnb, hnc⟩ := newK_inv h
    refine ⟨_, s', h, fun V e w ks K he hR hK => ?_⟩
    obtain ⟨v, h3, h4⟩ := hl V e he
    obtain ⟨u, h5, h6⟩ := hc V e he
    obtain ⟨kd, rfl⟩ := intA_sound hln h3
    obtain ⟨kd', rfl⟩ := intA_sound hcn h5
    refine wi_some h4 (wi_some h6 ?_)
    simp only [hu]
    refine hinf _ w ⟨⟨h1.1.1.1, h1.1.1.2, h1.1.2, h1.2⟩, ?_⟩
    refine (hK (V.bind s.nb w.heap.size) _ _ (mv_new hR (o := .cells (repV cn.toNat z).toArray _) hget hiv hnb hnc rfl (Rest.alloc _ _) (fun c T fz h => by cases h; rfl) ?_) (conc_sln (by simp [Vn.bind]))).2
    have hrl := repV_length z cn.toNat
    refine ⟨(repV cn.toNat z).toArray, by show (w.heap.push _)[w.heap.size]? = _; simp, by simp [hrl, hzl], fun i a ha => ?_, trivial⟩
    obtain ⟨hlt, ha⟩ := rd_cells ha
    simp only [get_nil, at?_eq] at ha
    have hvl := concL_length (hza V)
    obtain ⟨v, g1, g2⟩ := concL_at (hza V) ha
    refine ⟨v, conc_mono (Vn.le_bind (hR.nb _ (Nat.le_refl _))) _ _ g1, ?_⟩
    rw [List.getElem?_toArray, repV_get z cn.toNat i (by rw [hzl]; exact hlt)]
    rw [hvl]; exact g2
  · cases h

theorem newMap {s : St} {B : Blk} {o : Obj} {a : Nat → A} {k : A → St → Option β} {r : β} (ho : ∀ c T fz, o = .cells c T fz → fz = (0, 0)) (h : newK s B (fun b s => k (a b) s) = some r) :
    ∃ s', k (a s.nb) s' = some r ∧ ∀ V w, Rel V s w → BlkOk (V.bind s.nb w.heap.size) (w.alloc o) w.heap.size B → Mv V s w (V.bind s.nb w.heap.size) s' (w.alloc o) := by
  obtain ⟨s', h, hget, hiv, hnb, hnc⟩ := newK_inv h
  exact ⟨s', h, fun V w hR hB => mv_new hR hget hiv hnb hnc rfl (Rest.alloc _ _) ho hB⟩

theorem sE_map0 {T : TypeId} {E : Tr A} {s : St} {k : A → St → Option β} {r : β} (h : eMap0 P T E s k = some r) {ty : TypeId} : ∃ a s', k a s' = some r ∧ SE P (.makeMap T none) ty E s a s' := by
  unfold eMap0 at h
  split at h
  · rename_i hu
    obtain ⟨s', h, hs⟩ := newMap (o := .map #[] 0) (a := .mp) (fun c T fz h => by cases h) h
    refine ⟨_, s', h, fun V e w ks K he hR hK => ?_⟩
    simp only [opE, hu]
    refine (hK _ _ _ (hs V w hR ⟨[], by show (w.heap.push _)[w.heap.size]? = _; simp, rfl, fun i e he => by simp at he⟩) (conc_mp (x := w.heap.size) (by simp [Vn.bind]))).2
  · cases h
theorem sE_map1 {T : TypeId} {x : Operand} {E : Tr A} {s : St} {k : A → St → Option β} {r : β} (h : eMap1 P T x E s k = some r) {ty : TypeId} : ∃ a s', k a s' = some r ∧ SE P (.makeMap T (some x)) ty E s a s' := by
  unfold eMap1 at h
  split at h
  · rename_i hu
    obtain ⟨a, h, ha⟩ := evK_inv h
    obtain ⟨n, hn, h⟩ := oK_inv h
    obtain ⟨s', h, hs⟩ := newMap (o := .map #[] 0) (a := .mp) (fun c T fz h => by cases h) h
    refine ⟨_, s', h, fun V e w ks K he hR hK => ?_⟩
    obtain ⟨v, h1, h2⟩ := ha V e he
    obtain ⟨kd, rfl⟩ := intA_sound hn h1
    simp only [opE, hu]
    refine wi_some h2 ?_
    refine (hK _ _ _ (hs V w hR ⟨[], by show (w.heap.push _)[w.heap.size]? = _; simp, rfl, fun i e he => by simp at he⟩) (conc_mp (x := w.heap.size) (by simp [Vn.bind]))).2
  · cases h

theorem sE_store {T : TypeId} {x y : Operand} {E : Tr A} {s : St} {k : A → St → Option β} {r : β} (h : eStore P T x y E s k = some r) {ty : TypeId} : ∃ a s', k a s' = some r ∧ SE P (.store T x y) ty E s a s' := by
  obtain ⟨p, h, hp⟩ := evK_inv h
  obtain ⟨v, h, hv⟩ := evK_inv h
  unfold storeX at h
  split at h
  · split at h
    · rename_i hg hs1
      have hok : ok1A v = true := by
        have := (ck_inv (show ck (allOk1 [v]) _ = some r from h)).1
        unfold allOk1 at this
        split at this
        · assumption
        · cases this
      obtain ⟨s', h, hs⟩ := stX_inv h
      refine ⟨_, s', h, fun V e w ks K he hR hK => ?_⟩
      obtain ⟨u, h1, h2⟩ := hp V e he
      obtain ⟨u', h3, h4⟩ := hv V e he
      simp only [conc, Option.map_eq_some_iff] at h1
      obtain ⟨x, hx, rfl⟩ := h1
      refine w1_some h2 (w1_some h4 ?_)
      simp only [hg, hs1]
      have hl : concL V [v] = some [u'] := concL_mk h3 (by simp [concL])
      have hok' : ok1 u' = true := by
        have := allOk1_sound (l := [v]) (by simp [allOk1, hok]) hl
        simpa using this
      rw [hok']
      have := hs V w x [u'] (kpw ks K w undefV) hR hx hl (fun w' hm => kpw_mk (hK V _ w' hm (conc_undef' V)))
      obtain ⟨g1, g2, g3⟩ := this
      have g4 := g1 0 (by simp)
      simp only [add_mk, Nat.add_zero] at g4
      refine ⟨g4.1, g4.2, ?_⟩
      simpa [setN, Addr.add] using g3
    · rename_i n hg hs1
      split at h
      · obtain ⟨hn, h⟩ := ck_inv h
        obtain ⟨s', h, hs⟩ := stX_inv h
        refine ⟨_, s', h, fun V e w ks K he hR hK => ?_⟩
        obtain ⟨u, h1, h2⟩ := hp V e he
        obtain ⟨u', h3, h4⟩ := hv V e he
        simp only [conc, Option.map_eq_some_iff] at h1 h3
        obtain ⟨x, hx, rfl⟩ := h1
        obtain ⟨us, hus, rfl⟩ := h3
        refine w1_some h2 (w1_some h4 ?_)
        simp only [hg, hs1]
        have : Nat.beq us.toArray.toList.length n = true := by simpa [concL_length hus] using hn
        simp only [this]
        exact hs V w x us (kpw ks K w undefV) hR hx hus (fun w' hm => kpw_mk (hK V _ w' hm (conc_undef' V)))
      · cases h
    · cases h
  · cases h

/-! maps -/
theorem updE_inv : ∀ (es : List Ent) (i : Nat) (key v : A) (k : List Ent → Option β) (r : β), updE es i key v k = some r →
    ∃ e, es[i]? = some e ∧ k (es.set i { key := key, val := v, born := e.born }) = some r
  | [], i, key, v, k, r, h => by cases i <;> cases h
  | e :: es, 0, key, v, k, r, h => ⟨e, rfl, h⟩
  | e :: es, i + 1, key, v, k, r, h => by
    obtain ⟨e', h1, h2⟩ := updE_inv es i key v _ r h
    exact ⟨e', by simpa using h1, by simpa using h2⟩
theorem delE_inv : ∀ (es : List Ent) (i : Nat) (k : List Ent → Option β) (r : β), delE es i k = some r → i < es.length ∧ k (es.eraseIdx i) = some r
  | [], i, k, r, h => by cases i <;> cases h
  | e :: es, 0, k, r, h => ⟨by simp, h⟩
  | e :: es, i + 1, k, r, h => by
    obtain ⟨h1, h2⟩ := delE_inv es i _ r h
    exact ⟨by simpa using h1, by simpa using h2⟩
theorem pushE_inv : ∀ (es : List Ent) (e : Ent) (k : List Ent → Option β) (r : β), pushE es e k = some r → k (es ++ [e]) = some r
  | [], e, k, r, h => h
  | x :: es, e, k, r, h => pushE_inv es e _ r h

theorem setO_heap (w : World) (b : Nat) (o : Obj) (y : Nat) : (World.setO w b o).heap[y]? = if b = y ∧ b < w.heap.size then some o else w.heap[y]? := by
  unfold World.setO
  simp only [Array.getElem?_setIfInBounds]
  by_cases h : b = y
  · subst h
    by_cases h2 : b < w.heap.size
    · simp [h2]
    · simp [h2]
  · simp [h]

theorem mv_setO {V : Vn} {s s' : St} {w : World} (hR : Rel V s w) {b x : Nat} {B0 B : Blk} {o0 o : Obj} (hb : s.h.get b = some B0) (hx : V.ρ b = some x) (hget : ∀ j, s'.h.get j = if j = b then some B else s.h.get j) (hiv : s'.iv = s.iv) (hnb : s'.nb = s.nb) (hnc : s'.nc = s.nc)
    (h0 : w.heap[x]? = some o0) (h1 : ∀ c T fz, o0 ≠ .cells c T fz) (h2 : ∀ c T fz, o ≠ .cells c T fz) (hB : BlkOk V (World.setO w x o) x B) : Mv V s w V s' (World.setO w x o) :=
  mv_set hR hb hx hget hiv hnb hnc (fun y _ hy => by rw [setO_heap, if_neg (by intro h; exact hy h.1.symm)]) (Rest.setO h0 h1 h2) (size_setO _ _ _) hB
theorem setO_self {w : World} {x : Nat} {o o0 : Obj} (h : w.heap[x]? = some o0) : (World.setO w x o).heap[x]? = some o := by
  rw [setO_heap, if_pos ⟨rfl, (Array.getElem?_eq_some_iff.1 h).1⟩]

/-- what was found in a map -/
def FRes (V : Vn) (es : List Ent) (key : A) : Option (Nat × A) → Option (Nat × Value) → Prop
  | none, x' => x' = none
  | some (j, a), x' => ∃ v, conc V a = some v ∧ x' = some (j, v) ∧ ∃ e kd n, es[j]? = some e ∧ e.val = a ∧ key = .lit (.int kd n) ∧ e.key = .lit (.int kd n)
theorem findX_res {kT : TypeId} {es : List Ent} {key : A} {k : Option (Nat × A) → Option β} {r : β} (h : findX P kT es key k = some r) :
    ∃ x, k x = some r ∧ ∀ V (es' : List MapEntry) u, conc V key = some u → ER V es es' →
      ∃ x', (∀ em w, (Instr.checkKey em 10000 kT u).run P w = .ok () w) ∧ (∀ w, (Instr.findKey kT u es').run P w = .ok x' w) ∧ FRes V es key x x' := by
  obtain ⟨x, h1, h2⟩ := findX_inv h
  refine ⟨x, h1, fun V es' u hu he => ?_⟩
  obtain ⟨x', h3, h4, h5⟩ := h2 V es' u hu he.1 he.2
  refine ⟨x', h3, h4, ?_⟩
  cases x with
  | none => exact h5
  | some x => exact h5
theorem mupX_inv {s : St} {kT : TypeId} {m key v : A} {k : St → Option β} {r : β} (h : mupX P s kT m key v k = some r) :
    ∃ s', k s' = some r ∧ ∀ V w um uk uv (K : M), Rel V s w → conc V m = some um → conc V key = some uk → conc V v = some uv → (∀ w', Mv V s w V s' w' → K w') → ∃ q, um = .map q ∧ mup P kT q uk uv K w := by
  unfold mupX at h
  split at h
  · split at h
    · rename_i b _ es c hB
      obtain ⟨_, hkey, h⟩ := oK_inv h
      obtain ⟨x, h, hx⟩ := findX_res h
      have base : ∀ V w um uk, Rel V s w → conc V (.mp b) = some um → conc V key = some uk → ∃ y es', V.ρ b = some y ∧ um = .map (some y) ∧ w.heap[y]? = some (.map es'.toArray c) ∧ ER V es es' ∧
          ∃ x', (∀ em w, (Instr.checkKey em 10000 kT uk).run P w = .ok () w) ∧ (∀ w, (Instr.findKey kT uk es').run P w = .ok x' w) ∧ FRes V es key x x' := by
        intro V w um uk hR hm hk
        obtain ⟨y, hy, es', h1, h2, h3⟩ := hR.blk _ _ hB
        simp only [conc, hy, Option.map_some, Option.some.injEq] at hm
        exact ⟨y, es', hy, hm.symm, h1, ⟨h2, h3⟩, hx V es' uk hk ⟨h2, h3⟩⟩
      cases x with
      | none =>
        have h := pushE_inv _ _ _ _ h
        obtain ⟨s', h, hget, hiv, hnb, hnc⟩ := setBK_inv h
        refine ⟨s', h, fun V w um uk uv K hR hm hk hv hK => ?_⟩
        obtain ⟨y, es', hy, rfl, h1, h2, x', h3, h4, h5⟩ := base V w um uk hR hm hk
        have h5 : x' = none := h5
        subst h5
        refine ⟨_, rfl, y, es'.toArray, c, none, rfl, h1, fun w => ⟨h3 _ w, h4 w⟩, hK _ ?_⟩
        refine mv_setO hR hB hy hget hiv hnb hnc h1 (by simp) (by simp) ⟨es' ++ [⟨uk, uv, c⟩], ?_, ?_, ?_⟩
        · rw [setO_self h1]; simp
        · simp [h2.1]
        · intro i e hi
          by_cases hlt : i < es.length
          · rw [List.getElem?_append_left hlt] at hi
            obtain ⟨e', g1, g2⟩ := h2.2 i e hi
            exact ⟨e', by rw [List.getElem?_append_left (by rw [h2.1]; exact hlt)]; exact g1, g2⟩
          · rw [List.getElem?_append_right (by omega)] at hi
            have hi0 : i - es.length = 0 := by
              rcases Nat.eq_zero_or_pos (i - es.length) with e0 | e0
              · exact e0
              · rw [List.getElem?_eq_none (by simp; omega)] at hi; cases hi
            rw [hi0] at hi
            simp only [List.getElem?_cons_zero, Option.some.injEq] at hi
            subst hi
            refine ⟨⟨uk, uv, c⟩, ?_, rfl, hk, hv⟩
            rw [List.getElem?_append_right (by rw [h2.1]; omega), h2.1, hi0]; rfl
      | some x =>
        obtain ⟨i, a⟩ := x
        obtain ⟨e0, he0, h⟩ := updE_inv _ _ _ _ _ _ h
        obtain ⟨s', h, hget, hiv, hnb, hnc⟩ := setBK_inv h
        refine ⟨s', h, fun V w um uk uv K hR hm hk hv hK => ?_⟩
        obtain ⟨y, es', hy, rfl, h1, h2, x', h3, h4, v0, h5, rfl, e, kd, n, h6, h7, h8, h9⟩ := base V w um uk hR hm hk
        rw [he0] at h6; obtain rfl := Option.some.inj h6
        obtain ⟨e', g1, g2, g3, g4⟩ := h2.2 i e0 he0
        subst h8
        have := lit_conc hk; subst this
        rw [h9] at g3
        have g3 := lit_conc g3
        refine ⟨_, rfl, y, es'.toArray, c, some (i, v0), rfl, h1, fun w => ⟨h3 _ w, h4 w⟩, ⟨e', by simpa using g1, by rw [g3]; simp [sameKey, Instr.sameBits]⟩, hK _ ?_⟩
        refine mv_setO hR hB hy hget hiv hnb hnc h1 (by simp) (by simp) ⟨es'.set i ⟨.int kd n, uv, e'.born⟩, ?_, ?_, ?_⟩
        · rw [setO_self h1]
          have hlt : i < es'.length := (List.getElem?_eq_some_iff.1 g1).1
          have g1' : es'[i] = e' := by have := g1; rw [List.getElem?_eq_getElem hlt] at this; exact Option.some.inj this
          congr 2
          apply Array.ext'
          apply List.ext_getElem?
          intro j
          simp only [Array.toList_modify, List.getElem?_modify, List.getElem?_set]
          by_cases hij : i = j
          · subst hij; simp [hlt, g1']
          · simp [hij]
        · simp [h2.1]
        · intro j e hj
          rw [List.getElem?_set] at hj ⊢
          by_cases hij : i = j
          · subst hij
            have hlt : i < es.length := (List.getElem?_eq_some_iff.1 he0).1
            have hlt' : i < es'.length := by rw [h2.1]; exact hlt
            simp only [if_true, hlt, hlt', Option.some.injEq] at hj ⊢
            subst hj
            exact ⟨_, rfl, g2, rfl, hv⟩
          · simp only [hij, if_false] at hj ⊢
            exact h2.2 j e hj
    · cases h
  · cases h

theorem sE_mup {T : TypeId} {m i v : Operand} {E : Tr A} {s : St} {k : A → St → Option β} {r : β} (h : eMup P T m i v E s k = some r) {op : Op} (hop : op = .mapUpdate T m i v ∨ op = .insert T m i v) {ty : TypeId} : ∃ a s', k a s' = some r ∧ SE P op ty E s a s' := by
  obtain ⟨am, h, hm⟩ := evK_inv h
  obtain ⟨ak, h, hk⟩ := evK_inv h
  obtain ⟨av, h, hv⟩ := evK_inv h
  split at h
  · rename_i hu
    obtain ⟨s', h, hs⟩ := mupX_inv h
    refine ⟨_, s', h, fun V e w ks K he hR hK => ?_⟩
    obtain ⟨u1, h1, h2⟩ := hm V e he
    obtain ⟨u2, h3, h4⟩ := hk V e he
    obtain ⟨u3, h5, h6⟩ := hv V e he
    obtain ⟨q, rfl, h7⟩ := hs V w u1 u2 u3 (kpw ks K w undefV) hR h1 h3 h5 (fun w' hm => kpw_mk (hK V _ w' hm (conc_undef' V)))
    rcases hop with rfl | rfl
    · refine w1_some h2 (w1_some h4 (w1_some h6 ?_)); simp only [hu]; exact h7
    · refine w1_some h2 (w1_some h4 (w1_some h6 ?_)); simp only [hu]; exact h7
  · cases h

end Go.XC
