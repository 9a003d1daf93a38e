/- SX: what an operation's word says that does something, is what the model does: the theorem. -/
import Derived.Test.YtlcaelckplknnaaGreatDoorSXEff2
set_option linter.unusedVariables false
set_option linter.unusedSimpArgs false
namespace Go.SX
open Go

variable {P : Program}

theorem wrap_i64_in {n : Int} (h0 : -9223372036854775808 ≤ n) (h1 : n < 9223372036854775808) : IntKind.i64.wrap n = n := by
  have : IntKind.i64.wrap n = if (true && decide (n % 18446744073709551616 ≥ 9223372036854775808)) = true then n % 18446744073709551616 - 18446744073709551616 else n % 18446744073709551616 := rfl
  rw [this]
  by_cases h : n % 18446744073709551616 ≥ 9223372036854775808
  · simp only [h, decide_true, Bool.and_self, if_true]; omega
  · simp only [h, decide_false, Bool.and_false, Bool.false_eq_true, if_false]; omega
theorem toList_arr {vs : List Value} : vs.toArray = ⟨vs⟩ := rfl

theorem mup_case {op : Op} {T : TypeId} {m i v : Operand} {a : Act} {ev : Operand → Option Value} (hev : ∀ x v, ev x = some v → a.eval x = v) {ks : List Rd} {k : Value → M} {w : World}
    (_ : ∀ r ∈ ks, r.ok w) {next : Act → World → Prop} {Q : Exit → Act → World → Prop} {dst : Option Tmp} {type : TypeId} {pos : String} {after : Array Edge} {guard : Option (Nat × Bool)}
    (h : (w1 (ev m) fun m => w1 (ev i) fun key => w1 (ev v) fun v => match P.underlying T, m with
    | some (.map kT _), .map r => fun w => mup P kT r key v (kpw ks k w undefV) w
    | _, _ => F) w)
    (hnk : ∀ v w', Rest w w' → kpw ks k w v w' → next (a.put dst v) w')
    (hop : execOp a.eval ⟨dst, op, type, pos, after, guard⟩ = (do Instr.mapUpdate T (a.eval m) (a.eval i) (a.eval v); pure Next.skip)) : Oper.wp P ⟨dst, op, type, pos, after, guard⟩ a w next Q := by
  replace h := w1_sound h; obtain ⟨mv, hm, h⟩ := h
  replace h := w1_sound h; obtain ⟨key, hkey, h⟩ := h
  replace h := w1_sound h; obtain ⟨vv, hv, h⟩ := h
  rcases hu : P.underlying T with _ | d
  · rw [hu] at h; cases mv <;> exact h.elim
  · rw [hu] at h
    cases d <;> cases mv
    case map.map kT eT r =>
      obtain ⟨b, es, c, res, rfl, hb, hf, h⟩ := h
      obtain ⟨hck, hfk⟩ := hf w
      cases res with
      | none =>
        refine wp_skipv (w' := World.setO w b (.map (es.push { key, val := vv, born := c }) (c + 1))) ?_ (hnk _ _ (Rest.setO hb (by simp) (by simp)) h)
        rw [hop, hev _ _ hm, hev _ _ hkey, hev _ _ hv]
        refine run_u (s := Instr.mapUpdate T (.map (some b)) key vv) ?_
        simp only [Instr.mapUpdate, Sem.run_bind, run_underlying hu, Result.andThen_ok, run_getObj hb (by simp), hck, hfk, run_setObj hb (by simp)]
      | some x =>
        obtain ⟨j, u⟩ := x
        obtain ⟨⟨e, he, hsame⟩, h⟩ := h
        refine wp_skipv (w' := World.setO w b (.map (es.modify j fun e => { e with key, val := vv }) c)) ?_ (hnk _ _ (Rest.setO hb (by simp) (by simp)) h)
        rw [hop, hev _ _ hm, hev _ _ hkey, hev _ _ hv]
        refine run_u (s := Instr.mapUpdate T (.map (some b)) key vv) ?_
        have hks : ((es[j]?).map (·.key)).getD key = e.key := by simp [he]
        have hst : (Instr.keyThatStays (((es[j]?).map (·.key)).getD key) key).run P w = .ok key w := by
          rw [hks]
          unfold Instr.keyThatStays
          have : Instr.sameBits 10000 e.key key = true := hsame
          rw [this]; rfl
        simp only [Instr.mapUpdate, Sem.run_bind, run_underlying hu, Result.andThen_ok, run_getObj hb (by simp), hck, hfk, hst, run_setObj hb (by simp)]
    all_goals exact h.elim

theorem bltnE_case {b : Builtin} {tys : List TypeId} {vs : List Value} {ks : List Rd} {k : Value → M} {w : World} {type : TypeId} {cs : Array Bool} {G : Prop}
    (h : bltnE P b tys vs ks k w)
    (fin : ∀ {v : Value} {w' : World}, Rest w w' → kpw ks k w v w' → (builtin b ⟨tys⟩ type cs vs.toArray).run P w = .ok (.value v) w' → G) : G := by
  cases b
  case append =>
    match tys, vs, h with
    | [t, t'], [s, x], h =>
      rcases hu : P.underlying t with _ | d
      · simp only [bltnE, hu] at h; exact h.elim
      · rcases hu' : P.underlying t' with _ | d'
        · simp only [bltnE, hu, hu'] at h; cases d <;> exact h.elim
        · simp only [bltnE, hu, hu'] at h
          cases d
          case slice e =>
            cases d'
            case slice e' =>
              replace h := infoM_sound (P := P) h; obtain ⟨i, zv, hi, hz, hzs, h⟩ := h
              replace h := wsl_sound h; obtain ⟨sa, sl, sc, rfl, h⟩ := h
              replace h := wsl_sound h; obtain ⟨xa, xl, xc, rfl, h⟩ := h
              obtain ⟨r, w', h1, h2, h3⟩ := apd_sound (P := P) (ty := type) hi hz hzs hu hu' h
              exact fin h2 h3 (by simp only [builtin]; exact run_v h1)
            all_goals exact h.elim
          all_goals exact h.elim
    | [], _, h => exact h.elim
    | [_], _, h => exact h.elim
    | _ :: _ :: _ :: _, _, h => exact h.elim
    | [_, _], [], h => exact h.elim
    | [_, _], [_], h => exact h.elim
    | [_, _], _ :: _ :: _ :: _, h => exact h.elim
  case copy =>
    match tys, vs, h with
    | [t, t'], [s, x], h =>
      rcases hu : P.underlying t with _ | d
      · simp only [bltnE, hu] at h; exact h.elim
      · rcases hu' : P.underlying t' with _ | d'
        · simp only [bltnE, hu, hu'] at h; cases d <;> exact h.elim
        · simp only [bltnE, hu, hu'] at h
          cases d
          case slice e =>
            cases d'
            case slice e' =>
              replace h := infoM_sound (P := P) h; obtain ⟨i, zv, hi, hz, hzs, h⟩ := h
              replace h := wsl_sound h; obtain ⟨sa, sl, sc, rfl, h⟩ := h
              replace h := wsl_sound h; obtain ⟨xa, xl, xc, rfl, h⟩ := h
              obtain ⟨r, w', h1, h2, h3⟩ := cpy_sound (P := P) (t' := t') (ty := type) hi hu h
              exact fin h2 h3 (by simp only [builtin]; exact run_v h1)
            all_goals exact h.elim
          all_goals exact h.elim
    | [], _, h => exact h.elim
    | [_], _, h => exact h.elim
    | _ :: _ :: _ :: _, _, h => exact h.elim
    | [_, _], [], h => exact h.elim
    | [_, _], [_], h => exact h.elim
    | [_, _], _ :: _ :: _ :: _, h => exact h.elim
  case clear =>
    match tys, vs, h with
    | [t], [x], h =>
      rcases hu : P.underlying t with _ | d
      · simp only [bltnE, hu] at h; exact h.elim
      · simp only [bltnE, hu] at h
        cases d <;> cases x
        case slice.slice e p n c =>
          replace h := infoM_sound (P := P) h; obtain ⟨i, zv, hi, hz, hzs, h⟩ := h
          cases p with
          | none => exact fin (Rest.refl w) h (by simp only [builtin]; exact run_v (s := Builtin.clear_ ⟨[t]⟩ type #[.slice none n c]) (by simp [Builtin.clear_, run_underlying hu]; rfl))
          | some p =>
            obtain ⟨h1, h2, h3⟩ := stN_sound (P := P) h
            refine fin h2 h3 ?_
            simp only [builtin]
            refine run_v (s := Builtin.clear_ ⟨[t]⟩ type #[.slice (some p) n c]) ?_
            have ez : Builtin.zeroCells zv.cells n = (repV n zv.cells.toList).toArray := rep_arr zv.cells n
            cases n with
            | zero => simp [Builtin.clear_, run_underlying hu, repV, setN]; rfl
            | succ n =>
              simp only [Builtin.clear_, List.getElem?_toArray, List.getElem?_cons_zero, Sem.run_bind, run_underlying hu, Result.andThen_ok, run_zeroValue hi hz, ez, h1, Sem.run_pure]
              rfl
        all_goals exact h.elim
    | [], _, h => exact h.elim
    | _ :: _ :: _, _, h => exact h.elim
    | [_], [], h => exact h.elim
    | [_], _ :: _ :: _, h => exact h.elim
  case delete =>
    match tys, vs, h with
    | [t, _], [m, key], h =>
      rcases hu : P.underlying t with _ | d
      · simp only [bltnE, hu] at h; cases m <;> exact h.elim
      · simp only [bltnE, hu] at h
        cases d <;> cases m
        case map.map kT eT r =>
          obtain ⟨b, es, c, res, rfl, hb, hf, h⟩ := h
          obtain ⟨hck, hfk⟩ := hf w
          refine fin (Rest.setO hb (by simp) (by simp)) h ?_
          simp only [builtin]
          refine run_v (s := Builtin.delete_ ⟨[t, _]⟩ type #[.map (some b), key]) ?_
          cases res with
          | none => simp only [Builtin.delete_, List.getElem?_toArray, List.getElem?_cons_zero, List.getElem?_cons_succ, Sem.run_bind, run_underlying hu, Result.andThen_ok, run_getObj hb (by simp), hck, hfk, run_setObj hb (by simp), Sem.run_pure]; rfl
          | some x => simp only [Builtin.delete_, List.getElem?_toArray, List.getElem?_cons_zero, List.getElem?_cons_succ, Sem.run_bind, run_underlying hu, Result.andThen_ok, run_getObj hb (by simp), hck, hfk, run_setObj hb (by simp), Sem.run_pure]; rfl
        all_goals exact h.elim
    | [], _, h => exact h.elim
    | [_], _, h => exact h.elim
    | _ :: _ :: _ :: _, _, h => exact h.elim
    | [_, _], [], h => exact h.elim
    | [_, _], [_], h => exact h.elim
    | [_, _], _ :: _ :: _ :: _, h => exact h.elim
  case len =>
    match tys, vs, h with
    | [t], [m], h =>
      rcases hu : P.underlying t with _ | d
      · simp only [bltnE, hu] at h; cases m <;> exact h.elim
      · simp only [bltnE, hu] at h
        cases d <;> cases m
        case map.map kT eT r =>
          obtain ⟨es, hm, h⟩ := h
          refine fin (Rest.refl w) h ?_
          simp only [builtin]
          refine run_v (s := Builtin.len_ ⟨[t]⟩ type #[.map r]) ?_
          cases r with
          | none => simp only [mpAt] at hm; subst hm; simp [Builtin.len_, run_underlying hu, goInt]
          | some b =>
            obtain ⟨c, hc⟩ := hm
            simp only [Builtin.len_, List.getElem?_toArray, List.getElem?_cons_zero, Sem.run_bind, run_underlying hu, Result.andThen_ok, run_getObj hc (by simp), Sem.run_pure, goInt]
        all_goals exact h.elim
    | [], _, h => exact h.elim
    | _ :: _ :: _, _, h => exact h.elim
    | [_], [], h => exact h.elim
    | [_], _ :: _ :: _, h => exact h.elim
  all_goals exact h.elim

theorem nxt_sound {r : Nat} {k0 : M} {k1 : Value → Value → M} {w : World} {sp : Option Nat} {type : TypeId} (h : nxt r k0 k1 w) :
    ∃ v w', (Instr.next (.pointer (some ⟨r, 0, sp⟩)) false type).run P w = .ok v w' ∧ Rest w w' ∧ ((v = .tuple #[.bool false] ∧ k0 w') ∨ ∃ key val, v = .tuple #[.bool true, key, val] ∧ k1 key val w') := by
  rcases h with ⟨h1, h2⟩ | ⟨b, since, seen, last, es, c, h1, h2, h3, h4⟩
  · refine ⟨.tuple #[.bool false], w, ?_, Rest.refl w, .inl ⟨rfl, h2⟩⟩
    simp only [Instr.next, Sem.run_bind, run_getObj h1 (by simp), Result.andThen_ok, Sem.run_pure]
  · let L := nxtL es since seen
    have hch : ∀ q : Question, ∃ d, (choose q).run P w = .ok (if q.forced then 0 else q.cut (w.tape w.drawn q)) { w with drawn := d } := by
      intro q
      rw [run_choose]
      cases q.forced
      · exact ⟨w.drawn + 1, rfl⟩
      · exact ⟨w.drawn, rfl⟩
    obtain ⟨d, hd⟩ := hch (.mapNext L.size)
    have hL0 : 0 < L.size := by
      show 0 < ((if ((es.filter fun e => !seen.contains e.born).filter (·.born < since)).isEmpty then #[none] else #[]) ++ (((es.filter fun e => !seen.contains e.born).filter (·.born < since)) ++ ((es.filter fun e => !seen.contains e.born).filter (·.born ≥ since))).map some : Array (Option MapEntry)).size
      cases hem : ((es.filter fun e => !seen.contains e.born).filter (·.born < since)).isEmpty
      · simp only [Bool.false_eq_true, if_false, Array.size_append, Array.size_map]
        have : 0 < ((es.filter fun e => !seen.contains e.born).filter (·.born < since)).size := by
          rcases Nat.eq_zero_or_pos ((es.filter fun e => !seen.contains e.born).filter (·.born < since)).size with h0 | h0
          · rw [Array.isEmpty, h0] at hem; cases hem
          · exact h0
        omega
      · simp only [if_true, Array.size_append]
        simp
        omega
    have hlt : (if (Question.mapNext L.size).forced then 0 else (Question.mapNext L.size).cut (w.tape w.drawn (.mapNext L.size))) < L.size := by
      split
      · exact hL0
      · exact Nat.mod_lt _ hL0
    generalize hidx : (if (Question.mapNext L.size).forced then 0 else (Question.mapNext L.size).cut (w.tape w.drawn (.mapNext L.size))) = idx at hd hlt
    have hmem := h4 L[idx] (by simp [L]) d
    have hget : L[idx]? = some L[idx] := by simp [hlt]
    have hheap : ({ w with drawn := d } : World).heap[r]? = some (.mapIter (some b) since seen last) := h1
    cases hx : L[idx] with
    | none =>
      rw [hx] at hmem hget
      refine ⟨.tuple #[.bool false], { w with drawn := d }, ?_, Rest.of_heap rfl rfl rfl rfl, .inl ⟨rfl, hmem⟩⟩
      simp only [Instr.next, Sem.run_bind, run_getObj h1 (by simp), Result.andThen_ok, run_getObj h2 (by simp), h3, Bool.false_eq_true, if_false]
      show ((choose (.mapNext L.size)).run P w).andThen _ = _
      rw [hd]
      simp only [Result.andThen_ok]
      show (match L[idx]? with | some (some e) => _ | some none => _ | none => _ : Sem Value).run P _ = _
      rw [hget]; rfl
    | some e =>
      rw [hx] at hmem hget
      refine ⟨.tuple #[.bool true, e.key, e.val], World.setO { w with drawn := d } r (.mapIter (some b) since (seen.push e.born) c), ?_, Rest.trans (b := { w with drawn := d }) (Rest.of_heap rfl rfl rfl rfl) (Rest.setO hheap (by simp) (by simp)), .inr ⟨_, _, rfl, hmem⟩⟩
      simp only [Instr.next, Sem.run_bind, run_getObj h1 (by simp), Result.andThen_ok, run_getObj h2 (by simp), h3, Bool.false_eq_true, if_false]
      show ((choose (.mapNext L.size)).run P w).andThen _ = _
      rw [hd]
      simp only [Result.andThen_ok]
      show (match L[idx]? with | some (some e) => _ | some none => _ | none => _ : Sem Value).run P _ = _
      rw [hget]
      simp only [Sem.run_bind, run_setObj hheap (by simp), Result.andThen_ok, Sem.run_pure]

theorem opE_sound (hN : noNum P) {o : Oper} {a : Act} {ev : Operand → Option Value} (hev : ∀ x v, ev x = some v → a.eval x = v) {ks : List Rd} {k : Value → M} {w : World}
    (hks : ∀ r ∈ ks, r.ok w) {next : Act → World → Prop} {Q : Exit → Act → World → Prop}
    (h : opE P o.op o.type ev ks k w) (hn : ∀ v w', Rest w w' → (∀ r ∈ ks, r.same w w') → k v w' → next (a.put o.dst v) w') : o.wp P a w next Q := by
  obtain ⟨dst, op, type, pos, after, guard⟩ := o
  simp only [] at h hn
  have hna : ∀ v ob, k v (w.alloc ob) → next (a.put dst v) (w.alloc ob) := fun v ob hk => hn v _ (Rest.alloc w ob) (fun r hr => (hks r hr).alloc ob) hk
  have hnk : ∀ v w', Rest w w' → kpw ks k w v w' → next (a.put dst v) w' := fun v w' hr hk => hn v w' hr (kpw_sound hk).1 (kpw_sound hk).2
  cases op
  case alloc T =>
    rcases hz : zeroL P T with _ | z
    · simp only [opE, hz] at h; exact h.elim
    · simp only [opE, hz] at h
      obtain ⟨i, v, hi, hzv, hzc⟩ := zeroL_sound hz
      refine wp_value (w' := w.alloc (.cells z.toArray T)) ?_ (hna _ _ h)
      have : v.cells = z.toArray := by rw [← hzc]
      simp only [execOp]
      refine run_v (s := Instr.alloc T true (.tuple #[])) ?_
      simp only [Instr.alloc, Sem.run_bind, run_zeroValue hi hzv, Result.andThen_ok, newVar, newRow, run_newObj, Sem.run_pure, this, World.alloc]
  case box T x =>
    replace h := w1_sound h; obtain ⟨v, hv, h⟩ := h
    refine wp_value (w' := w.alloc (.cells v.cells.toList.toArray T)) ?_ (hna _ _ h)
    simp only [execOp, hev _ _ hv]
    refine run_v (s := Instr.box T v) ?_
    simp only [Instr.box, Sem.run_bind, newVar, newRow, run_newObj, Result.andThen_ok, Sem.run_pure, World.alloc]
  case buildSlice T len parts =>
    rcases hp : evps ev parts.toList with _ | ps
    · simp only [opE, hp] at h; exact h.elim
    · rcases hu : P.underlying T with _ | d
      · simp only [opE, hp, hu] at h; exact h.elim
      · simp only [opE, hp, hu] at h
        cases d
        case slice e =>
          replace h := infoM_sound (P := P) h; obtain ⟨i, zv, hi, hz, hzs, h⟩ := h
          rcases hb : Nat.ble (len * i.size) 16777216 with _ | _
          · rw [hb] at h; exact h.elim
          · rcases hf : fillL (fun j => some (j * i.size, i.size)) (repC len zv.cells.toList) ps with _ | cs
            · rw [hb, hf] at h; exact h.elim
            · rw [hb, hf] at h
              have hb := Nat.le_of_ble_eq_true hb
              have hs : sizeB P e = some i.size := by simp [sizeB, hi]
              refine wp_value (w' := w.alloc (.cells cs.toArray e)) ?_ (hna _ _ h)
              simp only [execOp, evps_arr hev hp]
              refine run_v (s := Instr.buildSlice T len ps.toArray) ?_
              have hfl := fillL_sound (place := fun j => some (j * i.size, i.size)) (place' := fun j => some (j * i.size, i.size)) (fun _ _ hx => hx) ps (repV len zv.cells.toList).toArray cs (by rw [← repC_eq]; exact hf)
              have hz0 : ¬ len * i.size > 2 ^ 24 := by omega
              simp only [Instr.buildSlice, Sem.run_bind, run_underlying hu, Result.andThen_ok, run_sizeOf hs, hz0, if_false]
              by_cases h0 : len * i.size = 0
              · have hnil : (repV len zv.cells.toList).toArray = (Array.range (len * i.size)).map (fun i => (#[] : Array Value)[i % (#[] : Array Value).size]!) := by
                  apply Array.ext'
                  have hl : (repV len zv.cells.toList).length = 0 := by rw [repV_length, Array.length_toList, hzs, h0]
                  have := List.length_eq_zero_iff.1 hl
                  rw [this, h0]; simp
                rw [hnil] at hfl
                simp only [h0, if_true, Sem.run_pure, Result.andThen_ok]
                rw [h0] at hfl
                simp only [hfl, Sem.run_bind, newRow, run_newObj, Result.andThen_ok, Sem.run_pure, World.alloc]
              · rw [← rep_arr, hzs] at hfl
                simp only [h0, if_false, Sem.run_bind, run_zeroValue hi hz, Result.andThen_ok, Sem.run_pure, hzs]
                simp only [hfl, Sem.run_bind, newRow, run_newObj, Result.andThen_ok, Sem.run_pure, World.alloc]
        all_goals exact h.elim
  case makeSlice T l c =>
    replace h := wi_sound h; obtain ⟨k1, ln, hl, h⟩ := h
    replace h := wi_sound h; obtain ⟨k2, cn, hc, h⟩ := h
    rcases hu : P.underlying T with _ | d
    · rw [hu] at h; exact h.elim
    · rw [hu] at h
      cases d
      case slice e =>
        replace h := infoM_sound (P := P) h; obtain ⟨i, zv, hi, hz, hzs, h⟩ := h
        obtain ⟨⟨h0, h1, h2, h3⟩, h⟩ := h
        have hs : sizeB P e = some i.size := by simp [sizeB, hi]
        refine wp_value (w' := w.alloc (.cells (repV cn.toNat zv.cells.toList).toArray e)) ?_ (hna _ _ h)
        simp only [execOp, hev _ _ hl, hev _ _ hc]
        refine run_v (s := Instr.makeSlice T (.int k1 ln) (.int k2 cn)) ?_
        have wl : IntKind.i64.wrap ln = ln := wrap_i64_in (by omega) (by omega)
        have wc : IntKind.i64.wrap cn = cn := wrap_i64_in (by omega) (by omega)
        have hbig : ¬ ((i.bytes : Int) * cn > 2 ^ 48) := by omega
        have hcn : ¬ cn < 0 := by omega
        have hln : ¬ ln < 0 := by omega
        have hlc : ¬ ln > cn := by omega
        have hcond : ((decide (cn < 0) || decide ((i.bytes : Int) * cn > 2 ^ 48)) || decide (ln < 0) || decide (ln > cn)) = false := by
          simp only [decide_eq_false hbig, decide_eq_false hcn, decide_eq_false hln, decide_eq_false hlc, Bool.or_self]
        simp only [Instr.makeSlice, Sem.run_bind, run_underlying hu, Result.andThen_ok, asInt, asIntOf, Sem.run_pure, run_typeInfo hi, wl, wc, hcond, Bool.false_eq_true, if_false, run_askRoom, run_sizeOf hs]
        by_cases hcs : cn.toNat * i.size = 0
        · have hnil : (repV cn.toNat zv.cells.toList).toArray = #[] := by
            apply Array.ext'
            have hl : (repV cn.toNat zv.cells.toList).length = 0 := by rw [repV_length, Array.length_toList, hzs, hcs]
            exact List.length_eq_zero_iff.1 hl
          simp only [hcs, if_true, Sem.run_pure, Result.andThen_ok, Sem.run_bind, newRow, run_newObj, hnil, World.alloc]
          have : (Array.map (fun i => (#[] : Array Value)[i % (#[] : Array Value).size]!) (Array.range 0)) = #[] := by simp
          rw [this]
        · simp only [hcs, if_false, Sem.run_bind, run_zeroValue hi hz, Result.andThen_ok, Sem.run_pure, newRow, run_newObj, World.alloc]
          rw [← rep_arr, hzs]
      all_goals exact h.elim
  case makeMap T r =>
    rcases hu : P.underlying T with _ | d
    · simp only [opE, hu] at h; exact h.elim
    · simp only [opE, hu] at h
      cases d
      case map kT eT =>
        cases r with
        | none =>
          refine wp_value (w' := w.alloc (.map #[] 0)) ?_ (hna _ _ h)
          simp only [execOp]
          refine run_v (s := Instr.makeMap T none) ?_
          simp only [Instr.makeMap, Sem.run_bind, run_newObj, Sem.run_pure, Result.andThen_ok, World.alloc]
        | some r =>
          replace h := wi_sound h; obtain ⟨k1, n, hr, h⟩ := h
          refine wp_value (w' := w.alloc (.map #[] 0)) ?_ (hna _ _ h)
          simp only [execOp, Option.map_some, hev _ _ hr]
          refine run_v (s := Instr.makeMap T (some (.int k1 n))) ?_
          simp only [Instr.makeMap, Sem.run_bind, run_underlying hu, asInt, asIntOf, run_newObj, Sem.run_pure, Result.andThen_ok, World.alloc]
      all_goals exact h.elim
  case store T x y =>
    replace h := w1_sound h; obtain ⟨p, hp, h⟩ := h
    replace h := w1_sound h; obtain ⟨v, hv, h⟩ := h
    cases p
    case pointer p =>
      cases p
      case none => exact h.elim
      case some q =>
        rcases hag : isAggB P T with _ | b
        · rw [hag] at h; exact h.elim
        · rcases hs : sizeB P T with _ | n
          · rw [hag, hs] at h; cases b <;> exact h.elim
          · rw [hag, hs] at h
            cases b with
            | false =>
              rcases hn1 : n with _ | m
              · subst hn1; exact h.elim
              · cases m with
                | succ m => subst hn1; exact h.elim
                | zero =>
                  subst hn1
                  rcases hv1 : ok1 v with _ | _
                  · rw [hv1] at h; exact h.elim
                  · rw [hv1] at h
                    obtain ⟨⟨u, hu⟩, hf, h⟩ := h
                    refine wp_skipv (w' := w.setCell q v) ?_ (hnk _ _ (Rest.setCell w q v) h)
                    simp only [execOp, hev _ _ hp, hev _ _ hv]
                    refine run_u (s := Instr.storeAt T (.pointer (some q)) v) ?_
                    have h1 := run_setCell (P := P) hu hf hv1
                    have hq : q.add 0 = q := by simp [Addr.add]
                    simp only [Instr.storeAt, Instr.sureAddr, Sem.run_bind, Sem.run_pure, Result.andThen_ok, storeVar, run_sizeOf hs, ok1_cells hv1, List.size_toArray, List.length_cons, List.length_nil, Nat.zero_add, ne_eq, not_true_eq_false, if_false, storeCells, hq, h1]
            | true =>
              cases v
              case agg cs =>
                rcases hb : Nat.beq cs.toList.length n with _ | _
                · simp only [hb] at h; exact h.elim
                · simp only [hb] at h
                  have hb := Nat.eq_of_beq_eq_true hb
                  obtain ⟨h1, h2, h3⟩ := stN_sound (P := P) h
                  refine wp_skipv ?_ (hnk _ _ h2 h3)
                  simp only [execOp, hev _ _ hp, hev _ _ hv]
                  refine run_u (s := Instr.storeAt T (.pointer (some q)) (.agg cs)) ?_
                  have hb' : cs.size = n := by simpa using hb
                  simp only [Instr.storeAt, Instr.sureAddr, Sem.run_bind, Sem.run_pure, Result.andThen_ok, storeVar, run_sizeOf hs, Value.cells, hb', ne_eq, not_true_eq_false, if_false, h1]
              all_goals exact h.elim
    all_goals exact h.elim
  case range T x =>
    replace h := w1_sound h; obtain ⟨v, hv, h⟩ := h
    rcases hu : P.underlying T with _ | d
    · rw [hu] at h; cases v <;> exact h.elim
    · rw [hu] at h
      cases d <;> cases v
      case map.map kT eT r =>
        cases r with
        | none =>
          refine wp_value (w' := w.alloc (.mapIter none 0 #[] 0)) ?_ (hnk _ _ (Rest.alloc _ _) h)
          simp only [execOp, hev _ _ hv]
          refine run_v (s := Instr.range T (.map none)) ?_
          simp only [Instr.range, Sem.run_bind, run_underlying hu, Result.andThen_ok, Sem.run_pure, run_newObj, World.alloc]
        | some b =>
          obtain ⟨es, c, hb, h⟩ := h
          refine wp_value (w' := w.alloc (.mapIter (some b) c #[] c)) ?_ (hnk _ _ (Rest.alloc _ _) h)
          simp only [execOp, hev _ _ hv]
          refine run_v (s := Instr.range T (.map (some b))) ?_
          simp only [Instr.range, Sem.run_bind, run_underlying hu, Result.andThen_ok, run_getObj hb (by simp), Sem.run_pure, run_newObj, World.alloc]
      all_goals exact h.elim
  case mapUpdate T m i v => exact mup_case hev hks h hnk (by simp [execOp])
  case insert T m i v => exact mup_case hev hks h hnk (by simp [execOp])
  case next it str =>
    cases str
    case true => exact h.elim
    case false =>
      replace h := w1_sound h; obtain ⟨p, hp, h⟩ := h
      cases p
      case pointer q =>
        cases q
        case none => exact h.elim
        case some q =>
          obtain ⟨r, off, sp⟩ := q
          cases off
          case succ n => exact h.elim
          case zero =>
            have fin : ∀ {k0 : M} {k1 : Value → Value → M}, nxt r k0 k1 w → (∀ w', Rest w w' → k0 w' → kpw ks k w (.tuple #[.bool false]) w') →
                (∀ key val w', Rest w w' → k1 key val w' → kpw ks k w (.tuple #[.bool true, key, val]) w') →
                Oper.wp P ⟨dst, .next it false, type, pos, after, guard⟩ a w next Q := by
              intro k0 k1 hx h0 h1
              obtain ⟨v, w', hrun, hr, hv⟩ := nxt_sound (P := P) (sp := sp) (type := type) hx
              refine wp_value (w' := w') (v := v) ?_ (hnk _ _ hr ?_)
              · simp only [execOp, hev _ _ hp]
                exact run_v hrun
              · rcases hv with ⟨rfl, hk⟩ | ⟨key, val, rfl, hk⟩
                · exact h0 _ hr hk
                · exact h1 _ _ _ hr hk
            rcases hu : P.underlying type with _ | d
            · simp only [opE, hp, w1, hu] at h; exact h.elim
            · cases d
              case tuple ts =>
                obtain ⟨ts⟩ := ts
                match ts, hu with
                | [], hu => simp only [opE, hp, w1, hu] at h; exact fin h (fun _ _ h => h) (fun _ _ _ _ h => h)
                | [_], hu => simp only [opE, hp, w1, hu] at h; exact h.elim
                | [_, _], hu => simp only [opE, hp, w1, hu] at h; exact h.elim
                | _ :: _ :: _ :: _ :: _, hu => simp only [opE, hp, w1, hu] at h; exact h.elim
                | [tb, tk, tv], hu =>
                  simp only [opE, hp, w1, hu] at h
                  refine fin h (fun _ _ h => h) (fun key val w' _ h => ?_)
                  obtain ⟨k', hk'⟩ := asT_sound h
                  obtain ⟨v', hv'⟩ := asT_sound hk'
                  obtain ⟨e1, e2, hk⟩ := hv'
                  subst e1 e2
                  exact hk
              all_goals (simp only [opE, hp, w1, hu] at h; exact h.elim)
      all_goals exact h.elim
  case entry it =>
    replace h := w1_sound h; obtain ⟨p, hp, h⟩ := h
    cases p
    case pointer q =>
      cases q
      case none => exact h.elim
      case some q =>
        obtain ⟨r, off, sp⟩ := q
        cases off
        case succ n => exact h.elim
        case zero =>
          obtain ⟨m, since, seen, stepped, es, clock, stamp, e, h1, h2, h3, h4, h5, hk⟩ := h
          refine wp_value (w' := w) (v := .tuple #[e.key, e.val]) ?_ (hnk _ _ (Rest.refl w) hk)
          simp only [execOp, hev _ _ hp]
          refine run_v (s := Instr.entry (.pointer (some ⟨r, 0, sp⟩))) ?_
          simp only [Instr.entry, Sem.run_bind, run_getObj h1 (by simp), Result.andThen_ok, run_getObj h3 (by simp), h2, h4, h5, bne_self_eq_false, Bool.false_eq_true, if_false, Sem.run_pure]
    all_goals exact h.elim
  case call c =>
    obtain ⟨callee, args, argTypes⟩ := c
    have hclv : ∀ f, (w1 (ev f) fun fv => ws (evs ev args.toList) fun vs w => clv P fv vs (fun v => asTy P type v (kpw ks k w)) w) w →
        Oper.wp P ⟨dst, .call ⟨.value f, args, argTypes⟩, type, pos, after, guard⟩ a w next Q := by
      intro f h
      replace h := w1_sound h; obtain ⟨fv, hf, h⟩ := h
      replace h := ws_sound h; obtain ⟨vs, hvs, h⟩ := h
      obtain ⟨g, x, y, rfl, hb, hc⟩ := h
      have hargs := evs_arr hev hvs
      refine cl_wp (o := ⟨dst, .call ⟨.value f, args, argTypes⟩, type, pos, after, guard⟩) ?_ hc (fun v w' hr hk => hnk _ _ hr (asTy_sound hk))
      simp only [execOp, resolve, hargs, hev _ _ hf, Deferred.ofValue, Sem.run_bind, Sem.run_pure, Result.andThen_ok, invoke]
      rw [show (x ++ vs.toArray ++ y) = (x.toList ++ vs ++ y.toList).toArray by apply Array.ext'; simp]
      exact run_callFunc hN hb _ w
    cases callee
    case value f =>
      cases f
      case func g =>
        rcases hb : bodyB P g with _ | _
        · simp only [opE, hb] at h; exact h.elim
        · simp only [opE, hb] at h
          replace h := ws_sound h; obtain ⟨vs, hvs, hc⟩ := h
          have hargs := evs_arr hev hvs
          refine cl_wp (o := ⟨dst, .call ⟨.value (.func g), args, argTypes⟩, type, pos, after, guard⟩) ?_ hc (fun v w' hr hk => hnk _ _ hr (asTy_sound hk))
          simp only [execOp, resolve, hargs, Act.eval, Deferred.ofValue, Sem.run_bind, Sem.run_pure, Result.andThen_ok, invoke]
          rw [show ((#[] : Array Value) ++ vs.toArray ++ #[]) = vs.toArray by apply Array.ext'; simp]
          exact run_callFunc hN hb _ w
      all_goals exact hclv _ h
    case builtin b =>
      replace h := ws_sound h; obtain ⟨vs, hvs, h⟩ := h
      have hargs := evs_arr hev hvs
      obtain ⟨tys⟩ := argTypes
      have fin : ∀ {v : Value} {w' : World}, Rest w w' → kpw ks k w v w' → (builtin b ⟨tys⟩ type (args.map fun | .const _ => true | _ => false) vs.toArray).run P w = .ok (.value v) w' →
          Oper.wp P ⟨dst, .call ⟨.builtin b, args, ⟨tys⟩⟩, type, pos, after, guard⟩ a w next Q := by
        intro v w' hr hk hrun
        refine wp_value (o := ⟨dst, .call ⟨.builtin b, args, ⟨tys⟩⟩, type, pos, after, guard⟩) ?_ (hnk v w' hr hk)
        simp only [execOp, resolve, hargs, pure_bind, invoke]
        exact hrun
      exact bltnE_case h fin
    all_goals exact h.elim
  all_goals exact h.elim

end Go.SX
