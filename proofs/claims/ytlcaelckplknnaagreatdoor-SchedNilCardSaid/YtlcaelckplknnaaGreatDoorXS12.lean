/- XS: the executor is sound: regions that draw their order, the theorem. -/
import Derived.Test.YtlcaelckplknnaaGreatDoorXS11
set_option linter.unusedVariables false
set_option linter.unusedSimpArgs false
namespace Go.XC
open Go Go.SX
variable {β : Type} {P : Program} {ops : Array Oper} {B : Array Nat}

theorem mem_filt {p : Nat → Bool} {l : List Nat} {i : Nat} : i ∈ filt p l ↔ i ∈ l ∧ p i = true := by rw [filt_eq, List.mem_filter]

/-- an operation that makes something new is done ahead -/
theorem early {listed : Array Bool} {F : List Nat} {E : Tr A} {V V0 : Vn} {s s0 : St} {w w0 : World} {e : Env} {D : List (Nat × Nat)} {lds : List (Nat × List Rd)} {ldx : List (Nat × List RA)} {f : Nat} {K : Env → M} {x : Nat}
    (hfree : freeOk P ops E F = true) (hdist : distF ops F = true) (hF : ∀ i ∈ F, isF ops i = true) (hx : x ∈ F) (hxD : x ∉ D.map Prod.fst) (hDF : ∀ p ∈ D, p.1 ∈ F) (hr : x ∈ Region.ready .any ops (listAll listed (D.map Prod.fst)))
    (hd : Done P ops E V s w w0 e D) (hm : Mv V0 s0 w0 V s w) (he : ERel V E e) (hl : LRel V ldx lds) (hun : un ops (listAll listed (D.map Prod.fst)) < f + 1)
    (hk : ∀ D' e' w', (∀ p ∈ D', p.1 ∈ F) → Done P ops E V s w' w0 e' D' → Mv V0 s0 w0 V s w' → ERel V E e' → un ops (listAll listed (D'.map Prod.fst)) < f → (∀ i, i ∈ D'.map Prod.fst ↔ i = x ∨ i ∈ D.map Prod.fst) → regH P ops B f (listAll listed (D'.map Prod.fst)) lds e' K w') :
    ∃ o, ops[x]? = some o ∧ gd ops.toList o e (fun e => opE P o.op o.type (evo e) (keeps (B.getD x 0) lds) fun v => regH P ops B f ((listAll listed (D.map Prod.fst)).setIfInBounds x true) lds (put o.dst v e) K)
      (fun e => regH P ops B f ((listAll listed (D.map Prod.fst)).setIfInBounds x true) lds (drop1 o.dst e) K) w := by
  obtain ⟨o, t, obj, mk, h1, h2, h3, h4⟩ := freeOk_sound hfree hx
  obtain ⟨o', t', g1, g2, g3, _⟩ := isF_cases (P := P) (hF x hx)
  rw [h1] at g1; obtain rfl := Option.some.inj g1
  refine ⟨o, h1, ?_⟩
  unfold gd
  rw [g2]
  refine FV_sound h4 he ?_
  have hset : (listAll listed (D.map Prod.fst)).setIfInBounds x true = listAll listed (((x, w.heap.size) :: D).map Prod.fst) := by rw [listAll_set]; rfl
  rw [hset]
  have halloc : ∀ b, b < w.heap.size → (w.alloc obj).heap[b]? = w.heap[b]? := by
    intro b hb
    show (w.heap.push obj)[b]? = _
    rw [Array.getElem?_push, if_neg (by omega)]
  have hg := garbage hm.rel halloc (Rest.alloc w obj) (fun a ha => frozen_push (w := w) rfl (FV_nf h4) a ha)
  refine hk ((x, w.heap.size) :: D) _ _ ?_ ⟨?_, ?_⟩ (hm.trans hg) ?_ ?_ (fun i => by simp)
  · intro p hp
    cases hp with
    | head => exact hx
    | tail _ hp => exact hDF p hp
  · intro p hp
    cases hp with
    | head =>
      refine ⟨o, t, obj, mk, h1, h2, h4, by rw [h2, lk_put, if_pos rfl], by show (w.heap.push obj)[w.heap.size]? = _; simp, hm.rest.size, fun id hid e => ?_⟩
      obtain ⟨Bk, hBk⟩ := hid
      obtain ⟨b, e1, e2⟩ := hm.rel.blk id Bk hBk
      rw [e] at e1; obtain rfl := Option.some.inj e1
      exact absurd e2.lt (Nat.lt_irrefl _)
    | tail _ hp =>
      obtain ⟨o2, t2, obj2, mk2, f1, f2, f3, f4, f5, f6, f7⟩ := hd.each p hp
      have hlt : p.2 < w.heap.size := (Array.getElem?_eq_some_iff.1 f5).1
      refine ⟨o2, t2, obj2, mk2, f1, f2, f3, ?_, by rw [halloc _ hlt]; exact f5, f6, f7⟩
      have hne : x ≠ p.1 := fun e => hxD (List.mem_map.2 ⟨p, hp, e.symm⟩)
      have := distF_sound hdist x hx p.1 (hDF p hp) hne o o2 t h1 f1 h2
      rw [f2] at this
      rw [h2, lk_put, if_neg (fun e => this e.symm)]
      exact f4
  · rw [List.map_cons, List.nodup_cons]
    refine ⟨fun hmem => ?_, hd.nd⟩
    obtain ⟨p, hp, hpe⟩ := List.mem_map.1 hmem
    obtain ⟨o2, t2, obj2, mk2, _, _, _, _, f5, _⟩ := hd.each p hp
    have hlt : p.2 < w.heap.size := (Array.getElem?_eq_some_iff.1 f5).1
    rw [hpe] at hlt
    exact absurd hlt (Nat.lt_irrefl _)
  · intro t2 a ha
    rw [h2, lk_put]
    by_cases ht : some t = some t2
    · rw [← Option.some.inj ht, h3] at ha; cases ha
    · rw [if_neg ht]; exact he t2 a ha
  · have := un_set hr
    rw [hset] at this
    omega

theorem regHX_inv {call : CallX β} (hcall : CallOk P call) : ∀ (fuel : Nat) (listed : Array Bool) (lds : List (Nat × List RA)) (E : Tr A) (s : St) (k : Tr A → St → Option β) (r : β), regHX P call ops B fuel listed lds E s k = some r →
    ∃ E' s', k E' s' = some r ∧ ∀ (D : List (Nat × Nat)) V0 s0 w0 V e w lds' f (K : Env → M), (∀ p ∈ D, p.1 ∈ filt (isF ops) (Region.ready .any ops listed)) → Done P ops E V s w w0 e D → Mv V0 s0 w0 V s w → ERel V E e → LRel V lds lds' →
      un ops (listAll listed (D.map Prod.fst)) < f → (∀ V' e' w', Mv V0 s0 w0 V' s' w' → ERel V' E' e' → K e' w') → regH P ops B f (listAll listed (D.map Prod.fst)) lds' e K w
  | 0, _, _, _, _, _, _, h => by cases h
  | fuel + 1, listed, lds, E, s, k, r, h => by
    unfold regHX at h
    cases hrd : Region.ready .any ops listed with
    | nil =>
      rw [hrd] at h
      refine ⟨E, s, h, fun D V0 s0 w0 V e w lds' f K hDF hd hm he hl hun hK => ?_⟩
      have hD : D = [] := by
        cases D with
        | nil => rfl
        | cons p D => have := hDF p (by simp); simp [filt] at this
      subst hD
      cases f with
      | zero => omega
      | succ f =>
        unfold regH
        simp only [List.map_nil, listAll, hrd]
        exact hK V e w hm he
    | cons r0 rs =>
      rw [hrd] at h
      simp only [] at h
      have hFm : ∀ i, i ∈ filt (isF ops) (r0 :: rs) → isF ops i = true := fun i hi => (mem_filt.1 hi).2
      have hready : ∀ i, i ∈ r0 :: rs → i ∈ Region.ready .any ops listed := fun i hi => by rw [hrd]; exact hi
      cases hfq : firstQ (quietAt P ops) (r0 :: rs) with
      | some i =>
        rw [hfq] at h
        simp only [] at h
        obtain ⟨hi1, hi2⟩ := firstQ_some hfq
        split at h
        · rename_i o ho
          obtain ⟨hck, h⟩ := ck_inv h
          simp only [Bool.and_eq_true] at hck
          obtain ⟨⟨⟨hah, hpl⟩, hfree⟩, hdist⟩ := hck
          have hqB : quietB P o.op = true := by have := hi2; simp only [quietAt, ho] at this; exact this
          -- what is ready behind what was done ahead
          have hq' : ∀ D : List (Nat × Nat), (∀ p ∈ D, p.1 ∈ filt (isF ops) (r0 :: rs)) → firstQ (quietAt P ops) (Region.ready .any ops (listAll listed (D.map Prod.fst))) = some i := by
            intro D hD
            rw [aheadOk_sound hah (D.map Prod.fst) (fun j hj => by obtain ⟨p, hp, rfl⟩ := List.mem_map.1 hj; exact hD p hp) (.inl rfl)]
            refine firstQ_filter (fun x hx => ?_) hfq
            cases hm : memN (D.map Prod.fst) x with
            | false => rfl
            | true =>
              obtain ⟨p, hp, rfl⟩ := List.mem_map.1 ((memN_iff _ _).1 hm)
              have := isF_not_quiet (P := P) (hFm _ (hD p hp))
              rw [this] at hx; cases hx
          have hnext : ∀ D : List (Nat × Nat), (∀ p ∈ D, p.1 ∈ filt (isF ops) (r0 :: rs)) → ∀ p ∈ D, p.1 ∈ filt (isF ops) (Region.ready .any ops (listed.setIfInBounds i true)) := by
            intro D hD p hp
            obtain ⟨g1, g2⟩ := mem_filt.1 (hD p hp)
            refine mem_filt.2 ⟨ready_mono (hready _ g1) ?_, g2⟩
            intro e; subst e
            have := isF_not_quiet (P := P) g2
            rw [this] at hi2; cases hi2
          have hun' : ∀ (D : List (Nat × Nat)) f, (∀ p ∈ D, p.1 ∈ filt (isF ops) (r0 :: rs)) → un ops (listAll listed (D.map Prod.fst)) < f + 1 → un ops (listAll (listed.setIfInBounds i true) (D.map Prod.fst)) < f := by
            intro D f hD hun
            have hmem := (firstQ_some (hq' D hD)).1
            have := un_set hmem
            rw [listAll_set'] at this
            omega
          rcases gdX_inv h with ⟨h, hg⟩ | ⟨h, hg⟩
          · have hxq := h
            obtain ⟨a, h, ha⟩ := xQ_inv h
            obtain ⟨E1, h, hE1, hE1r⟩ := putX_inv h
            obtain ⟨E', s', h, hrest⟩ := regHX_inv hcall fuel _ _ _ _ _ _ h
            refine ⟨E', s', h, fun D V0 s0 w0 V e w lds' f K hDF hd hm he hl hun hK => ?_⟩
            cases f with
            | zero => omega
            | succ f =>
              refine regH_quiet (hq' D hDF) ho ?_
              refine hg V e _ _ w he fun e1 he1 => ?_
              refine ha V e1 w _ (he.of_lk he1) hm.rel fun v hv => ?_
              rw [listAll_set']
              have hd1 : Done P ops E1 V s w w0 (put o.dst v e1) D := hd.step hpl hDF (fun t ht => by rw [hE1, if_neg ht]) (fun t ht => by rw [lk_put, if_neg ht, he1]) (Mv.refl hm.rel rfl (Rest.refl w))
              exact hrest D V0 s0 w0 V _ w _ f K (hnext D hDF) hd1 hm (hE1r V e1 v (he.of_lk he1) hv) ⟨rfl, reads_rel hxq (he.of_lk he1), hl⟩ (hun' D f hDF hun) hK
          · obtain ⟨E1, h, hE1, hE1r⟩ := dropE_inv h
            obtain ⟨E', s', h, hrest⟩ := regHX_inv hcall fuel _ _ _ _ _ _ h
            refine ⟨E', s', h, fun D V0 s0 w0 V e w lds' f K hDF hd hm he hl hun hK => ?_⟩
            cases f with
            | zero => omega
            | succ f =>
              refine regH_quiet (hq' D hDF) ho ?_
              refine hg V e _ _ w he fun e1 he1 => ?_
              rw [listAll_set']
              have hd1 : Done P ops E1 V s w w0 (drop1 o.dst e1) D := hd.step hpl hDF (fun t ht => by rw [hE1, if_neg ht]) (fun t ht => by rw [lk_drop1 ht, he1]) (Mv.refl hm.rel rfl (Rest.refl w))
              exact hrest D V0 s0 w0 V _ w _ f K (hnext D hDF) hd1 hm (hE1r V e1 (he.of_lk he1)) hl (hun' D f hDF hun) hK
        · cases h
      | none =>
        rw [hfq] at h
        simp only [] at h
        have hnoq : ∀ i ∈ r0 :: rs, quietAt P ops i = false := firstQ_none hfq
        split at h
        · -- only such operations are left: all of them
          rename_i hC
          obtain ⟨hck, h⟩ := ck_inv h
          simp only [Bool.and_eq_true] at hck
          obtain ⟨⟨hah, hfree⟩, hdist⟩ := hck
          have hall : ∀ i ∈ r0 :: rs, isF ops i = true := by
            intro i hi
            cases hf : isF ops i with
            | true => rfl
            | false =>
              have : i ∈ filt (fun i => !isF ops i) (r0 :: rs) := mem_filt.2 ⟨hi, by simp [hf]⟩
              rw [hC] at this; cases this
          have hFeq : filt (isF ops) (r0 :: rs) = r0 :: rs := by rw [filt_eq]; exact List.filter_eq_self.2 hall
          have hnd : (r0 :: rs).Nodup := by rw [← hrd]; unfold Region.ready; exact List.Sublist.nodup List.filter_sublist List.nodup_range
          rw [hFeq] at h hah hfree hdist
          obtain ⟨E1, s1, h, hfl⟩ := flush_inv (r0 :: rs) E s _ r (fun i hi => ⟨hall i hi, by obtain ⟨o, t, obj, mk, g1, _, _, g4⟩ := freeOk_sound hfree hi; exact ⟨o, _, g1, g4⟩⟩) hnd h
          obtain ⟨E', s', h, hrest⟩ := regHX_inv hcall fuel _ _ _ _ _ _ h
          refine ⟨E', s', h, ?_⟩
          intro D V0 s0 w0 V e w lds' f K hDF hd hm he hl hun hK
          rw [hFeq] at hDF
          -- one after another, in whatever order
          induction f generalizing D e w with
          | zero => omega
          | succ f ih =>
            by_cases hdone : ∀ i ∈ r0 :: rs, i ∈ D.map Prod.fst
            · obtain ⟨V2, h1, h2, h3⟩ := hfl V0 s0 w0 V e w D (fun i hi => by obtain ⟨p, hp, rfl⟩ := List.mem_map.1 (hdone i hi); exact ⟨p.2, hp⟩) hDF hd hm he
              have heq : listAll listed (D.map Prod.fst) = listAll listed (r0 :: rs) := listAll_ext fun i => ⟨fun hi => by obtain ⟨p, hp, rfl⟩ := List.mem_map.1 hi; exact hDF p hp, hdone i⟩
              rw [heq] at hun ⊢
              exact hrest [] V0 s0 w0 V2 e w lds' (f + 1) K (fun p hp => by cases hp) ⟨fun p hp => (by cases hp), (by simp)⟩ h2 h3 (hl.mono h1) hun hK
            · have hex : ∃ i ∈ r0 :: rs, i ∉ D.map Prod.fst := by
                apply Classical.byContradiction
                intro hne
                exact hdone fun i hi => Classical.byContradiction fun hni => hne ⟨i, hi, hni⟩
              have hrd' := aheadOk_sound hah (D.map Prod.fst) (fun j hj => by obtain ⟨p, hp, rfl⟩ := List.mem_map.1 hj; exact hDF p hp) (.inr hex)
              have hmem' : ∀ i, i ∈ Region.ready .any ops (listAll listed (D.map Prod.fst)) ↔ i ∈ r0 :: rs ∧ i ∉ D.map Prod.fst := by
                intro i
                rw [hrd', List.mem_filter]
                have := memN_iff (D.map Prod.fst) i
                constructor
                · rintro ⟨g1, g2⟩; exact ⟨g1, fun hx => by rw [this.2 hx] at g2; cases g2⟩
                · rintro ⟨g1, g2⟩; refine ⟨g1, ?_⟩; cases hb : memN (D.map Prod.fst) i with
                  | false => rfl
                  | true => exact absurd (this.1 hb) g2
              refine regH_eff (fun hn => ?_) (firstQ_none_of fun i hi => hnoq i ((hmem' i).1 hi).1) fun i hi => ?_
              · obtain ⟨i, hi, hni⟩ := hex
                have := (hmem' i).2 ⟨hi, hni⟩
                rw [hn] at this; cases this
              · obtain ⟨g1, g2⟩ := (hmem' i).1 hi
                exact early hfree hdist hall g1 g2 hDF hi hd hm he hl hun fun D' e' w' hD' hd' hm' he' hun' _ => ih D' e' w' hD' hd' hm' he' hun'
        · -- one other operation
          rename_i i hC
          split at h
          · rename_i o ho
            obtain ⟨hck, h⟩ := ck_inv h
            simp only [Bool.and_eq_true] at hck
            obtain ⟨⟨⟨hah, hpl⟩, hfree⟩, hdist⟩ := hck
            have hiC : i ∈ r0 :: rs ∧ isF ops i = false := by
              have : i ∈ filt (fun i => !isF ops i) (r0 :: rs) := by rw [hC]; simp
              obtain ⟨g1, g2⟩ := mem_filt.1 this
              exact ⟨g1, by simpa using g2⟩
            have honly : ∀ j ∈ r0 :: rs, j = i ∨ j ∈ filt (isF ops) (r0 :: rs) := by
              intro j hj
              cases hf : isF ops j with
              | true => exact .inr (mem_filt.2 ⟨hj, hf⟩)
              | false =>
                have : j ∈ filt (fun i => !isF ops i) (r0 :: rs) := mem_filt.2 ⟨hj, by simp [hf]⟩
                rw [hC] at this
                exact .inl (by simpa using this)
            have hnext : ∀ D : List (Nat × Nat), (∀ p ∈ D, p.1 ∈ filt (isF ops) (r0 :: rs)) → ∀ p ∈ D, p.1 ∈ filt (isF ops) (Region.ready .any ops (listed.setIfInBounds i true)) := by
              intro D hD p hp
              obtain ⟨g1, g2⟩ := mem_filt.1 (hD p hp)
              refine mem_filt.2 ⟨ready_mono (hready _ g1) ?_, g2⟩
              intro e; rw [e, hiC.2] at g2; cases g2
            have hmem' : ∀ D : List (Nat × Nat), (∀ p ∈ D, p.1 ∈ filt (isF ops) (r0 :: rs)) → ∀ j, j ∈ Region.ready .any ops (listAll listed (D.map Prod.fst)) ↔ j ∈ r0 :: rs ∧ j ∉ D.map Prod.fst := by
              intro D hD j
              rw [aheadOk_sound hah (D.map Prod.fst) (fun j hj => by obtain ⟨p, hp, rfl⟩ := List.mem_map.1 hj; exact hD p hp) (.inl rfl), List.mem_filter]
              have := memN_iff (D.map Prod.fst) j
              constructor
              · rintro ⟨g1, g2⟩; exact ⟨g1, fun hx => by rw [this.2 hx] at g2; cases g2⟩
              · rintro ⟨g1, g2⟩; refine ⟨g1, ?_⟩; cases hb : memN (D.map Prod.fst) j with
                | false => rfl
                | true => exact absurd (this.1 hb) g2
            have hiD : ∀ D : List (Nat × Nat), (∀ p ∈ D, p.1 ∈ filt (isF ops) (r0 :: rs)) → i ∈ Region.ready .any ops (listAll listed (D.map Prod.fst)) := by
              intro D hD
              refine (hmem' D hD i).2 ⟨hiC.1, fun hx => ?_⟩
              obtain ⟨p, hp, e⟩ := List.mem_map.1 hx
              have := (mem_filt.1 (hD p hp)).2
              rw [e, hiC.2] at this; cases this
            have hun' : ∀ (D : List (Nat × Nat)) f, (∀ p ∈ D, p.1 ∈ filt (isF ops) (r0 :: rs)) → un ops (listAll listed (D.map Prod.fst)) < f + 1 → un ops (listAll (listed.setIfInBounds i true) (D.map Prod.fst)) < f := by
              intro D f hD hun
              have := un_set (hiD D hD)
              rw [listAll_set'] at this
              omega
            -- what the others come to, in whatever order
            have wrap : ∀ (E' : Tr A) (s' : St),
                (∀ D V0 s0 w0 V e w lds' f (K : Env → M), (∀ p ∈ D, p.1 ∈ filt (isF ops) (r0 :: rs)) → Done P ops E V s w w0 e D → Mv V0 s0 w0 V s w → ERel V E e → LRel V lds lds' → un ops (listAll listed (D.map Prod.fst)) < f + 1 → (∀ V' e' w', Mv V0 s0 w0 V' s' w' → ERel V' E' e' → K e' w') →
                  gd ops.toList o e (fun e => opE P o.op o.type (evo e) (keeps (B.getD i 0) lds') fun v => regH P ops B f ((listAll listed (D.map Prod.fst)).setIfInBounds i true) lds' (put o.dst v e) K) (fun e => regH P ops B f ((listAll listed (D.map Prod.fst)).setIfInBounds i true) lds' (drop1 o.dst e) K) w) →
                ∀ (D : List (Nat × Nat)) V0 s0 w0 V e w lds' f (K : Env → M), (∀ p ∈ D, p.1 ∈ filt (isF ops) (r0 :: rs)) → Done P ops E V s w w0 e D → Mv V0 s0 w0 V s w → ERel V E e → LRel V lds lds' →
                  un ops (listAll listed (D.map Prod.fst)) < f → (∀ V' e' w', Mv V0 s0 w0 V' s' w' → ERel V' E' e' → K e' w') → regH P ops B f (listAll listed (D.map Prod.fst)) lds' e K w := by
              intro E' s' hone D V0 s0 w0 V e w lds' f K hDF hd hm he hl hun hK
              induction f generalizing D e w with
              | zero => omega
              | succ f ih =>
                refine regH_eff (fun hn => ?_) (firstQ_none_of fun j hj => hnoq j ((hmem' D hDF j).1 hj).1) fun j hj => ?_
                · have := hiD D hDF; rw [hn] at this; cases this
                · obtain ⟨g1, g2⟩ := (hmem' D hDF j).1 hj
                  rcases honly j g1 with rfl | hjF
                  · exact ⟨o, ho, hone D V0 s0 w0 V e w lds' f K hDF hd hm he hl hun hK⟩
                  · exact early hfree hdist hFm hjF g2 hDF hj hd hm he hl hun fun D' e' w' hD' hd' hm' he' hun' _ => ih D' e' w' hD' hd' hm' he' hun'
            rcases gdX_inv h with ⟨h, hg⟩ | ⟨h, hg⟩
            · obtain ⟨a, s1, h, ha⟩ := xE_inv hcall h
              obtain ⟨hsame, h⟩ := ck_inv h
              obtain ⟨E1, h, hE1, hE1r⟩ := putX_inv h
              obtain ⟨E', s', h, hrest⟩ := regHX_inv hcall fuel _ _ _ _ _ _ h
              refine ⟨E', s', h, ?_⟩
              refine wrap E' s' fun D V0 s0 w0 V e w lds' f K hDF hd hm he hl hun hK => ?_
              refine hg V e _ _ w he fun e1 he1 => ?_
              refine ha V e1 w _ _ (he.of_lk he1) hm.rel fun V1 v w1 hm1 hv => ⟨?_, ?_⟩
              · exact sameR_sound hm.rel hm1.rel hm1.ext _ _ hsame (hl.keeps _)
              · rw [listAll_set']
                have hd1 : Done P ops E1 V1 s1 w1 w0 (put o.dst v e1) D := hd.step hpl hDF (fun t ht => by rw [hE1, if_neg ht]) (fun t ht => by rw [lk_put, if_neg ht, he1]) hm1
                exact hrest D V0 s0 w0 V1 _ w1 _ f K (hnext D hDF) hd1 (hm.trans hm1) (hE1r V1 e1 v ((he.of_lk he1).mono hm1.ext) hv) (hl.mono hm1.ext) (hun' D f hDF hun) hK
            · obtain ⟨E1, h, hE1, hE1r⟩ := dropE_inv h
              obtain ⟨E', s', h, hrest⟩ := regHX_inv hcall fuel _ _ _ _ _ _ h
              refine ⟨E', s', h, ?_⟩
              refine wrap E' s' fun D V0 s0 w0 V e w lds' f K hDF hd hm he hl hun hK => ?_
              refine hg V e _ _ w he fun e1 he1 => ?_
              rw [listAll_set']
              have hd1 : Done P ops E1 V s w w0 (drop1 o.dst e1) D := hd.step hpl hDF (fun t ht => by rw [hE1, if_neg ht]) (fun t ht => by rw [lk_drop1 ht, he1]) (Mv.refl hm.rel rfl (Rest.refl w))
              exact hrest D V0 s0 w0 V _ w _ f K (hnext D hDF) hd1 hm (hE1r V e1 (he.of_lk he1)) hl (hun' D f hDF hun) hK
          · cases h
        · cases h

end Go.XC
