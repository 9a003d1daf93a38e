/- XS: the executor is sound: regions that draw their order. -/
import Derived.Test.YtlcaelckplknnaaGreatDoorXS9
set_option linter.unusedVariables false
set_option linter.unusedSimpArgs false
namespace Go.XC
open Go Go.SX
variable {β : Type} {P : Program}

/-! lists of what is done -/
theorem listAll_get : ∀ (l : List Nat) (a : Array Bool) (i : Nat), (listAll a l)[i]? = if i ∈ l ∧ i < a.size then some true else a[i]?
  | [], a, i => by simp [listAll]
  | x :: l, a, i => by
    rw [listAll, listAll_get l]
    simp only [Array.size_setIfInBounds, List.mem_cons, Array.getElem?_setIfInBounds]
    by_cases h1 : i ∈ l ∧ i < a.size
    · rw [if_pos h1, if_pos ⟨.inr h1.1, h1.2⟩]
    · rw [if_neg h1]
      by_cases h2 : x = i
      · subst h2
        by_cases h3 : x < a.size
        · simp [h3]
        · simp [h3]
      · rw [if_neg h2]
        have : ¬ ((i = x ∨ i ∈ l) ∧ i < a.size) := by
          rintro ⟨h | h, h3⟩
          · exact h2 h.symm
          · exact h1 ⟨h, h3⟩
        rw [if_neg this]
theorem listAll_ext {a : Array Bool} {l m : List Nat} (h : ∀ i, i ∈ l ↔ i ∈ m) : listAll a l = listAll a m := by
  apply Array.ext_getElem?
  intro i
  simp only [listAll_get, h i]
theorem listAll_set {a : Array Bool} {l : List Nat} {i : Nat} : (listAll a l).setIfInBounds i true = listAll a (i :: l) := by
  apply Array.ext_getElem?
  intro j
  have hsz : ∀ (l : List Nat) (a : Array Bool), (listAll a l).size = a.size := by
    intro l
    induction l with
    | nil => intro a; rfl
    | cons x l ih => intro a; rw [listAll, ih]; simp
  rw [Array.getElem?_setIfInBounds, listAll_get, listAll_get, hsz]
  simp only [List.mem_cons]
  by_cases h1 : i = j
  · subst h1
    by_cases h2 : i < a.size <;> simp [h2]
  · have : j ≠ i := fun h => h1 h.symm
    simp [h1, this]
theorem listAll_set' {a : Array Bool} {l : List Nat} {i : Nat} : (listAll a l).setIfInBounds i true = listAll (a.setIfInBounds i true) l := by
  rw [listAll_set]; rfl
theorem filt_eq (p : Nat → Bool) : ∀ l, filt p l = l.filter p
  | [] => rfl
  | i :: l => by
    unfold filt
    cases h : p i <;> simp [h, filt_eq p l]
theorem filter_subsets (q : Nat → Bool) : ∀ (l : List Nat), l.filter q ∈ subsets l
  | [] => by simp [subsets]
  | i :: l => by
    unfold subsets
    cases h : q i
    · simp only [List.filter_cons, h, Bool.false_eq_true, if_false]
      exact List.mem_append_left _ (filter_subsets q l)
    · simp only [List.filter_cons, h, if_true]
      exact List.mem_append_right _ (List.mem_map.2 ⟨_, filter_subsets q l, rfl⟩)
theorem beqL_eq : ∀ {l m : List Nat}, beqL l m = true → l = m
  | [], [], _ => rfl
  | a :: l, b :: m, h => by
    unfold beqL at h
    split at h
    · rename_i h1; rw [beq_iff h1, beqL_eq h]
    · cases h
  | [], _ :: _, h => by cases h
  | _ :: _, [], h => by cases h
theorem aheadOk_sound {ops : Array Oper} {listed : Array Bool} {rs F : List Nat} {whole : Bool} (h : aheadOk ops listed rs F whole = true) (D : List Nat) (hD : ∀ i ∈ D, i ∈ F) (hw : whole = true ∨ ∃ i ∈ F, i ∉ D) :
    Region.ready .any ops (listAll listed D) = rs.filter (fun i => !memN D i) := by
  unfold aheadOk at h
  have h1 := List.all_eq_true.1 h (F.filter (memN D)) (filter_subsets _ _)
  have hmem : ∀ i, i ∈ F.filter (memN D) ↔ i ∈ D := fun i => by
    rw [List.mem_filter, memN_iff]
    exact ⟨fun h => h.2, fun h => ⟨hD i h, h⟩⟩
  have hne : (!whole && Nat.beq (F.filter (memN D)).length F.length) = false := by
    rcases hw with rfl | ⟨i, hi, hni⟩
    · rfl
    · cases whole
      · cases hb : Nat.beq (F.filter (memN D)).length F.length
        · rfl
        · exfalso
          have hl := beq_iff hb
          have : F.filter (memN D) = F := List.filter_eq_self.2 (by
            have := List.length_filter_eq_length_iff.1 hl
            exact this)
          have hm : i ∈ F.filter (memN D) := by rw [this]; exact hi
          exact hni ((hmem i).1 hm)
      · rfl
  rw [hne, Bool.false_or] at h1
  have h2 := beqL_eq h1
  rw [filt_eq] at h2
  rw [listAll_ext (m := F.filter (memN D)) (fun i => (hmem i).symm), h2]
  apply List.filter_congr
  intro i _
  have : memN (F.filter (memN D)) i = memN D i := by
    have a1 := memN_iff (F.filter (memN D)) i
    have a2 := memN_iff D i
    have a3 := hmem i
    cases h3 : memN (F.filter (memN D)) i <;> cases h4 : memN D i <;> simp_all
  rw [this]

/-! operations that make something new -/
theorem isF_cases {ops : Array Oper} {i : Nat} (h : isF ops i = true) : ∃ o t, ops[i]? = some o ∧ o.guard = none ∧ o.dst = some t ∧ quietB P o.op = false := by
  unfold isF at h
  split at h
  · rename_i o ho
    split at h
    all_goals first
      | (cases h; done)
      | (rename_i hg hop
         obtain ⟨t, ht⟩ := Option.isSome_iff_exists.1 h
         exact ⟨o, t, ho, hg, ht, by rw [hop]; rfl⟩)
  · cases h

theorem evI_sound {E : Tr A} {x : Operand} {n : Int} (h : evI E x = some n) {V : Vn} {e : Env} (he : ERel V E e) : ∃ kd, evo e x = some (.int kd n) := by
  unfold evI at h
  split at h
  · split at h
    · rename_i a ha
      obtain ⟨v, h1, h2⟩ := he _ _ ha
      obtain ⟨kd, rfl⟩ := intA_sound h h1
      exact ⟨kd, h2⟩
    · cases h
  · simp only [Option.some.injEq] at h; subst h; exact ⟨_, rfl⟩
  · cases h
theorem evK_evI {E : Tr A} {x : Operand} {k : A → Option β} {r : β} (h : evK E x k = some r) {m : Int} (hm : evI E x = some m) : ∃ a, k a = some r ∧ intA a = some m := by
  cases x with
  | tmp t =>
    obtain ⟨a, ha, h⟩ := oK_inv (show oK (E.get t) k = some r from h)
    simp only [evI, ha] at hm
    exact ⟨a, h, hm⟩
  | const v =>
    cases v <;> first | (cases hm; done) | skip
    simp only [evI, Option.some.injEq] at hm; subst hm
    exact ⟨_, h, rfl⟩
  | func f => cases hm
  | global g => cases hm
theorem FV_sound {E : Tr A} {op : Op} {obj : Obj} {mk : Nat → Value} (h : FV P E op = some (obj, mk)) {ty : TypeId} {V : Vn} {e : Env} {ks : List Rd} {K : Value → M} {w : World} (he : ERel V E e) (hK : K (mk w.heap.size) (w.alloc obj)) : opE P op ty (evo e) ks K w := by
  unfold FV at h
  split at h
  · split at h
    · rename_i hu
      simp only [Option.some.injEq, Prod.mk.injEq] at h
      obtain ⟨rfl, rfl⟩ := h
      simp only [opE, hu]; exact hK
    · cases h
  · split at h
    · rename_i hz
      simp only [Option.some.injEq, Prod.mk.injEq] at h
      obtain ⟨rfl, rfl⟩ := h
      simp only [opE, hz]; exact hK
    · cases h
  · split at h
    · rename_i l c e' hl hc hu
      split at h
      · rename_i i z hi hz
        split at h
        · rename_i hb
          simp only [Option.some.injEq, Prod.mk.injEq] at h
          obtain ⟨rfl, rfl⟩ := h
          simp only [Bool.and_eq_true, leI_iff'] at hb
          obtain ⟨kd, h1⟩ := evI_sound hl he
          obtain ⟨kd', h2⟩ := evI_sound hc he
          refine wi_some h1 (wi_some h2 ?_)
          simp only [hu]
          unfold infoM
          rw [hi, hz]
          simp only [hb.1]
          exact ⟨⟨hb.2.1.1.1, hb.2.1.1.2, hb.2.1.2, hb.2.2⟩, hK⟩
        · cases h
      · cases h
    · cases h
  · cases h
theorem evI_congr {E E' : Tr A} {x : Operand} (h : ∀ t, x = .tmp t → E'.get t = E.get t) : evI E' x = evI E x := by
  cases x with
  | tmp t => simp only [evI, h t rfl]
  | const v => cases v <;> rfl
  | func f => rfl
  | global g => rfl
theorem FV_congr {E E' : Tr A} {op : Op} (h : ∀ t, Operand.tmp t ∈ op.operands → E'.get t = E.get t) : FV P E' op = FV P E op := by
  cases op with
  | makeSlice T l c =>
    have h1 : evI E' l = evI E l := evI_congr fun t ht => h t (by subst ht; simp [Op.operands])
    have h2 : evI E' c = evI E c := evI_congr fun t ht => h t (by subst ht; simp [Op.operands])
    simp only [FV, h1, h2]
  | makeMap T r => cases r <;> rfl
  | alloc T => rfl
  | _ => rfl

/-- such an operation, done abstractly: its block can be one that is there already -/
theorem F_adopt {call : CallX β} {o : Oper} {ops : Array Oper} {i : Nat} (ho : ops[i]? = some o) (hF : isF ops i = true) {E : Tr A} {s : St} {k : A → St → Option β} {r : β} (h : xE P call o.op o.type E s k = some r) {obj : Obj} {mk : Nat → Value} (hv : FV P E o.op = some (obj, mk)) :
    ∃ a s' B, k a s' = some r ∧ (∀ j, s'.h.get j = if j = s.nb then some B else s.h.get j) ∧ s'.iv = s.iv ∧ s'.nb = s.nb + 1 ∧ s'.nc = s.nc ∧
      (∀ V w b, w.heap[b]? = some obj → BlkOk V w b B) ∧ ∀ V b, V.ρ s.nb = some b → conc V a = some (mk b) := by
  unfold isF at hF
  rw [ho] at hF
  simp only [] at hF
  split at hF
  · rename_i hg hop
    rw [hop] at h hv
    simp only [xE] at h
    unfold eMap0 at h
    simp only [FV] at hv
    split at h
    · rename_i hu
      rw [hu] at hv
      simp only [Option.some.injEq, Prod.mk.injEq] at hv
      obtain ⟨rfl, rfl⟩ := hv
      obtain ⟨s', h, hget, hiv, hnb, hnc⟩ := newK_inv h
      exact ⟨_, s', _, h, hget, hiv, hnb, hnc, fun V w b hb => ⟨[], by simpa using hb, rfl, fun i e he => by simp at he⟩, fun V b hb => conc_mp hb⟩
    · cases h
  · rename_i T l c hg hop
    rw [hop] at h hv
    simp only [xE] at h
    simp only [FV] at hv
    split at hv
    · rename_i l' c' e' hl hc hu
      obtain ⟨la, h, hla⟩ := evK_evI h hl
      obtain ⟨ln, hln, h⟩ := oK_inv h
      obtain ⟨ca, h, hca⟩ := evK_evI h hc
      obtain ⟨cn, hcn, h⟩ := oK_inv h
      rw [hu] at h
      simp only [] at h
      split at hv
      · rename_i inf z hi hz
        split at hv
        · rename_i hb
          simp only [Option.some.injEq, Prod.mk.injEq] at hv
          obtain ⟨rfl, rfl⟩ := hv
          simp only [Bool.and_eq_true] at hb
          unfold infoX at h
          rw [hi, hz] at h
          simp only [] at h
          obtain ⟨h1, h⟩ := ck_inv h
          obtain ⟨h2, h⟩ := ck_inv h
          obtain ⟨za, h, hza⟩ := ofVsK_inv _ _ _ h
          obtain ⟨h3, h⟩ := ck_inv h
          have h := fN_inv h
          have h := fN_inv h
          have h := fN_inv h
          obtain ⟨s', h, hget, hiv, hnb, hnc⟩ := newK_inv h
          have e1 : l' = ln ∧ c' = cn := ⟨Option.some.inj (hla.symm.trans hln), Option.some.inj (hca.symm.trans hcn)⟩
          obtain ⟨rfl, rfl⟩ := e1
          have hzl := beq_iff h1
          refine ⟨_, s', _, h, hget, hiv, hnb, hnc, fun V w b hb => ?_, fun V b hb => conc_sln hb⟩
          have hrl := repV_length z c'.toNat
          refine ⟨(repV c'.toNat z).toArray, hb, by simp [hrl, hzl], fun i a ha => ?_, trivial⟩
          obtain ⟨hlt, ha⟩ := rd_cells ha
          simp only [get_nil, at?_eq] at ha
          have hvl := concL_length (hza V)
          obtain ⟨v, g1, g2⟩ := concL_at (hza V) ha
          refine ⟨v, g1, ?_⟩
          rw [List.getElem?_toArray, repV_get z c'.toNat i (by rw [hzl]; exact hlt)]
          rw [hvl]; exact g2
        · cases hv
      · cases hv
    · cases hv
  · rename_i T hg hop
    rw [hop] at h hv
    simp only [xE] at h
    simp only [FV] at hv
    obtain ⟨z, hz, h⟩ := oK_inv h
    rw [hz] at hv
    simp only [Option.some.injEq, Prod.mk.injEq] at hv
    obtain ⟨rfl, rfl⟩ := hv
    obtain ⟨za, h, hza⟩ := ofVsK_inv _ _ _ h
    obtain ⟨s', B, h, _, hget, hiv, hnb, hnc, hB⟩ := laidK_inv h
    exact ⟨_, s', B, h, hget, hiv, hnb, hnc, fun V w b hb => hB V w b z z.toArray (hza V) hb (by simp) (fun i hi => by simp) (fun j sz e => by cases e), fun V b hb => conc_ptr hb⟩
  · cases hF

end Go.XC
