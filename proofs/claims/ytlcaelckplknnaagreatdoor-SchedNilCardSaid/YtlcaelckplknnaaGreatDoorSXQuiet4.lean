/- SX: what a quiet operation's word says is what the model does: the theorem. -/
import Derived.Test.YtlcaelckplknnaaGreatDoorSXQuiet3
set_option linter.unusedVariables false
set_option linter.unusedSimpArgs false
namespace Go.SX
open Go

variable {P : Program}

theorem run_sliceBound {k : IntKind} {i : Int} {y : Nat} {c : BoundsCode} (h0 : 0 ≤ i) (h1 : i ≤ y) (w : World) : (Instr.sliceBound (.int k i) y c).run P w = .ok i.toNat w := by
  simp [Instr.sliceBound, asIntOf, h0, h1]

theorem foldV_sound {g : Value → Value → Option Value} {f : Value → Value → Sem Value} (hg : ∀ x y z, g x y = some z → ∀ w : World, (f x y).run P w = .ok z w) :
    ∀ (l : List Value) (x z : Value), foldV g x l = some z → ∀ w : World, (l.foldlM f x).run P w = .ok z w
  | [], x, z, h, w => by simp [foldV] at h; subst h; simp
  | y :: l, x, z, h, w => by
    unfold foldV at h
    split at h
    · rename_i u hu
      simp only [List.foldlM_cons, Sem.run_bind, hg _ _ _ hu, Result.andThen_ok]
      exact foldV_sound hg l u z h w
    · cases h

def lkV (r : Option (Nat × Value)) (z : Value) : Value := match r with | some x => x.2 | none => z
theorem exD_sound {w : World} : ∀ (ss : List Srt) (k : List Value → M), exD ss k w → ∃ vs, k vs w
  | [], k, h => ⟨[], h⟩
  | s :: ss, k, h => by
    obtain ⟨d, h⟩ := h
    obtain ⟨vs, h⟩ := exD_sound ss _ h
    exact ⟨_, h⟩
theorem asT_sound {T : TypeId} {k : Value → M} {w : World} (h : asT P T k w) : ∃ v, k v w := by
  unfold asT at h
  rcases hu : P.underlying T with _ | d
  · rw [hu] at h; exact h.elim
  · rw [hu] at h
    have hagg : (match cellSrts P 40 T with
      | some ss => exD ss fun vs => k (.agg vs.toArray)
      | none => F) w → ∃ v, k v w := by
      intro h
      rcases hc : cellSrts P 40 T with _ | ss
      · rw [hc] at h; exact h.elim
      · rw [hc] at h
        obtain ⟨vs, h⟩ := exD_sound ss _ h
        exact ⟨_, h⟩
    cases d
    case struct fs => exact hagg h
    case array n e => exact hagg h
    all_goals (obtain ⟨x, h⟩ := h; exact ⟨_, h⟩)
theorem asTs_sound {w : World} : ∀ (Ts : List TypeId) (k : List Value → M), asTs P Ts k w → ∃ vs, k vs w
  | [], k, h => ⟨[], h⟩
  | T :: Ts, k, h => by
    obtain ⟨v, h⟩ := asT_sound h
    obtain ⟨vs, h⟩ := asTs_sound Ts _ h
    exact ⟨_, h⟩

theorem opQ_sound {o : Oper} {ρ : Operand → Value} {ev : Operand → Option Value} (hq : quietB P o.op = true) (hev : ∀ x v, ev x = some v → ρ x = v) {k : Value → M} {w : World}
    (h : opQ P o.op ev k w) : ∃ v, k v w ∧ Ylds P o ρ (readsQ P o.op ev) w v := by
  obtain ⟨dst, op, type, pos, after, guard⟩ := o
  simp only [] at hq h ⊢
  cases op
  case move x =>
    obtain ⟨v, hv, hk⟩ := w1_sound h
    exact ⟨v, hk, .pure fun w' => by simp [execOp, hev _ _ hv]⟩
  case assign x =>
    obtain ⟨v, hv, hk⟩ := w1_sound h
    exact ⟨v, hk, .pure fun w' => by simp [execOp, hev _ _ hv]⟩
  case pick c x y =>
    replace h := w1_sound h; obtain ⟨vc, hc, h⟩ := h
    cases vc
    case bool b =>
      cases b
      · obtain ⟨v, hv, hk⟩ := w1_sound (show w1 (ev y) k w from h)
        exact ⟨v, hk, .pure fun w' => by simp [execOp, hev _ _ hc, hev _ _ hv, asBool]⟩
      · obtain ⟨v, hv, hk⟩ := w1_sound (show w1 (ev x) k w from h)
        exact ⟨v, hk, .pure fun w' => by simp [execOp, hev _ _ hc, hev _ _ hv, asBool]⟩
    all_goals exact h.elim
  case load T x =>
    replace h := w1_sound h; obtain ⟨vc, hc, h⟩ := h
    cases vc
    case pointer p =>
      cases p
      case some a =>
        obtain ⟨v, hk, hok, hr⟩ := loadM_sound (show loadM P T a k w from h)
        refine ⟨v, hk, ?_, ?_⟩
        · simp only [readsQ, hc]; exact hok
        · simp only [readsQ, hc]
          intro w' hs
          simp [execOp, hev _ _ hc, Instr.loadAt, Instr.sureAddr, hr w' hs]
      case none => exact h.elim
    all_goals exact h.elim
  case nilCheck x =>
    replace h := w1_sound h; obtain ⟨vc, hc, h⟩ := h
    cases vc
    case pointer p =>
      cases p
      case some a => exact ⟨_, h, .pure fun w' => by simp [execOp, hev _ _ hc]⟩
      case none => exact h.elim
    case func fn x y =>
      cases fn
      case func f => exact ⟨_, h, .pure fun w' => by simp [execOp, hev _ _ hc]⟩
      all_goals exact h.elim
    all_goals exact h.elim
  case binOp bop T x y yT =>
    replace h := w1_sound h; obtain ⟨a, ha, h⟩ := h
    replace h := w1_sound h; obtain ⟨b, hb, h⟩ := h
    obtain ⟨v, hk, hr⟩ := binM_sound (P := P) (x := x) (y := y) h
    exact ⟨v, hk, .pure fun w' => by
      have h1 := hr w'
      simp only [execOp, hev _ _ ha, hev _ _ hb]
      exact run_v h1⟩
  case unOp uop T x =>
    replace h := w1_sound h; obtain ⟨a, ha, h⟩ := h
    cases uop
    case not =>
      cases a
      case bool b => exact ⟨_, h, .pure fun w' => by simp [execOp, hev _ _ ha, Op.unary, notB]⟩
      all_goals exact h.elim
    case neg =>
      cases a
      case int kd n => exact ⟨_, h, .pure fun w' => by simp [execOp, hev _ _ ha, Op.unary, Op.intArith]⟩
      all_goals exact h.elim
    case xor =>
      cases a
      case int kd n =>
        refine ⟨_, h, .pure fun w' => ?_⟩
        simp only [execOp, hev _ _ ha, Op.unary, Op.intBits, bXor]
        cases kd.signed <;> simp
      all_goals exact h.elim
    all_goals (cases a <;> exact h.elim)
  case convert src dst x =>
    replace h := w1_sound h; obtain ⟨a, ha, h⟩ := h
    have hq' : ∃ k1 k2, P.underlying src = some (.int k1) ∧ P.underlying dst = some (.int k2) := by
      unfold quietB at hq
      simp only [] at hq
      split at hq
      · rename_i k1 k2 h1 h2; exact ⟨k1, k2, h1, h2⟩
      · cases hq
    obtain ⟨k1, k2, hs, hd⟩ := hq'
    cases a
    case int kd n =>
      rw [hd] at h
      exact ⟨_, h, .pure fun w' => by simp [execOp, hev _ _ ha, convert, run_underlying hs, run_underlying hd, Conv.intToInt]⟩
    all_goals (rw [hd] at h; exact h.elim)
  case fieldAddr s x f =>
    replace h := w1_sound h; obtain ⟨a, ha, h⟩ := h
    rcases hu : P.underlying s with _ | d
    · simp only [hu] at h; cases a <;> exact h.elim
    · simp only [hu] at h
      cases d <;> cases a
      case struct.pointer fs p =>
        cases p
        case none => exact h.elim
        case some a =>
          rcases hf : fs.toList[f]? with _ | fl
          · simp only [hf] at h; exact h.elim
          · simp only [hf] at h
            rcases hs : sizeB P fl.type with _ | n
            · simp only [hs] at h; exact h.elim
            · simp only [hs] at h
              cases n
              case zero => exact h.elim
              case succ n =>
                have hf' : fs[f]? = some fl := by simpa using hf
                exact ⟨_, h, .pure fun w' => by simp [execOp, hev _ _ ha, Instr.fieldAt, run_underlying hu, hf', Instr.sureAddr, fieldPlace, run_sizeOf hs]⟩
      all_goals exact h.elim
  case field T x f =>
    replace h := w1_sound h; obtain ⟨a, ha, h⟩ := h
    rcases hu : P.underlying T with _ | d
    · simp only [hu] at h; cases a <;> exact h.elim
    · simp only [hu] at h
      cases d <;> cases a
      case struct.agg fs cs =>
        rcases hf : fs.toList[f]? with _ | fl
        · simp only [hf] at h; exact h.elim
        · simp only [hf] at h
          obtain ⟨v, hv, hk⟩ := w1_sound h
          have hf' : fs[f]? = some fl := by simpa using hf
          exact ⟨v, hk, .pure fun w' => by simp [execOp, hev _ _ ha, Instr.field, run_underlying hu, hf', asAgg, partL_sound hv]⟩
      all_goals exact h.elim
  case indexAddr T x i =>
    replace h := w1_sound h; obtain ⟨a, ha, h⟩ := h
    replace h := wi_sound h; obtain ⟨kd, n, hi, h⟩ := h
    rcases hu : P.underlying T with _ | d
    · simp only [hu] at h; cases a <;> exact h.elim
    · simp only [hu] at h
      cases d <;> cases a
      case slice.slice e p len cap =>
        rcases hs : sizeB P e with _ | sz
        · simp only [hs] at h; exact h.elim
        · simp only [hs] at h
          obtain ⟨q, rfl, h0, h1, hk⟩ := h
          exact ⟨_, hk, .pure fun w' => by simp [execOp, hev _ _ ha, hev _ _ hi, Instr.indexAt, asIntOf, run_underlying hu, h0, h1, run_sizeOf hs]⟩
      case array.pointer len e p =>
        cases p
        case none => exact h.elim
        case some q =>
          rcases hs : sizeB P e with _ | sz
          · simp only [hs] at h; exact h.elim
          · simp only [hs] at h
            obtain ⟨⟨h0, h1⟩, hk⟩ := h
            exact ⟨_, hk, .pure fun w' => by simp [execOp, hev _ _ ha, hev _ _ hi, Instr.indexAt, asIntOf, run_underlying hu, h0, h1, run_sizeOf hs, Instr.sureAddr]⟩
      all_goals exact h.elim
  case slice T x lo hi mx =>
    cases mx
    case some m => exact h.elim
    case none =>
      replace h := w1_sound h; obtain ⟨a, ha, h⟩ := h
      rcases hu : P.underlying T with _ | d
      · simp only [hu] at h; cases a <;> exact h.elim
      · simp only [hu] at h
        cases d <;> cases a
        case slice.slice e p len cap =>
          rcases hs : sizeB P e with _ | sz
          · simp only [hs] at h; exact h.elim
          · simp only [hs] at h
            replace h := wi_sound h; obtain ⟨k1, l, hl, h⟩ := h
            replace h := wi_sound h; obtain ⟨k2, hh, hhi, h⟩ := h
            obtain ⟨⟨h0, h1, h2⟩, hk⟩ := h
            refine ⟨_, hk, .pure fun w' => ?_⟩
            have e1 : ((hh.toNat : Nat) : Int) = hh := Int.toNat_of_nonneg (by omega)
            have hL : l ≤ (hh.toNat : Int) := by omega
            have hH0 : 0 ≤ hh := by omega
            have bl : (Instr.sliceBounds true len cap (lo.map ρ) (hi.map ρ) none).run P w' = .ok (l.toNat, hh.toNat, cap) w' := by
              cases lo with
              | none =>
                simp only [Option.some.injEq, Value.int.injEq] at hl
                obtain ⟨rfl, rfl⟩ := hl
                cases hi with
                | none =>
                  simp only [Option.some.injEq, Value.int.injEq] at hhi
                  obtain ⟨rfl, rfl⟩ := hhi
                  simp [Instr.sliceBounds]
                | some hx =>
                  simp [Instr.sliceBounds, hev _ _ hhi, run_sliceBound hH0 h2]
              | some lx =>
                cases hi with
                | none =>
                  simp only [Option.some.injEq, Value.int.injEq] at hhi
                  obtain ⟨rfl, rfl⟩ := hhi
                  simp only [Int.toNat_natCast] at hL ⊢
                  simp [Instr.sliceBounds, hev _ _ hl, run_sliceBound h0 h1]
                | some hx =>
                  simp [Instr.sliceBounds, hev _ _ hhi, hev _ _ hl, run_sliceBound hH0 h2, run_sliceBound h0 hL]
            simp [execOp, hev _ _ ha, Instr.sliceAt, Instr.slice, run_underlying hu, run_sizeOf hs, bl, slA]
        all_goals exact h.elim
  case extract t i =>
    replace h := w1_sound h; obtain ⟨a, ha, h⟩ := h
    cases a
    case tuple vs =>
      obtain ⟨v, hv, hk⟩ := w1_sound h
      have hv' : vs[i]? = some v := by simpa using hv
      exact ⟨v, hk, .pure fun w' => by simp [execOp, hev _ _ ha, Instr.extract, hv']⟩
    all_goals exact h.elim
  case build T parts =>
    unfold opQ at h
    rcases hp : evps ev parts.toList with _ | ps
    · simp only [hp] at h; exact h.elim
    · simp only [hp] at h
      obtain ⟨v, hk, hr⟩ := buildM_sound h
      exact ⟨v, hk, .pure fun w' => by
        simp only [execOp, evps_arr hev hp]
        exact run_v (hr w')⟩
  case makeFunc fn first captured =>
    replace h := ws_sound h; obtain ⟨a, ha, h⟩ := h
    replace h := ws_sound h; obtain ⟨b, hb, h⟩ := h
    exact ⟨_, h, .pure fun w' => by simp only [execOp, evs_arr hev ha, evs_arr hev hb, Instr.makeFunc]; rfl⟩
  case makeInterface T x =>
    replace h := w1_sound h; obtain ⟨a, ha, h⟩ := h
    rcases hu : P.underlying T with _ | d
    · simp only [hu] at h; exact h.elim
    · simp only [hu] at h
      cases d
      case interface ms => exact h.elim
      all_goals exact ⟨_, h, .pure fun w' => by simp [execOp, hev _ _ ha, Instr.makeInterface, run_underlying hu]⟩
  case lookup T m i ok =>
    replace h := w1_sound h; obtain ⟨vm, hm, h⟩ := h
    replace h := w1_sound h; obtain ⟨key, hkey, h⟩ := h
    cases vm
    case map mr =>
      replace h : lookM P T mr key ok k w := h
      unfold lookM at h
      rcases hu : P.underlying T with _ | d
      · rw [hu] at h; exact h.elim
      · rw [hu] at h
        cases d
        case map kT eT =>
          simp only [] at h
          rcases hi : P.info? eT with _ | inf
          · rw [hi] at h; exact h.elim
          · rw [hi] at h
            simp only [] at h
            rcases hz : inf.zero with _ | z
            · rw [hz] at h; exact h.elim
            · rw [hz] at h
              obtain ⟨es, r, hmp, hf, h⟩ := h
              have hout : ∃ v, (k v w) ∧ v = (if ok then .tuple #[lkV r z, .bool r.isSome] else lkV r z) := by
                cases ok with
                | true =>
                  simp only [] at h
                  obtain ⟨v, h⟩ := asT_sound h
                  obtain ⟨b, hb, h⟩ := h
                  cases r with
                  | none => simp only [Prod.mk.injEq] at hb; obtain ⟨rfl, rfl⟩ := hb; exact ⟨_, h, rfl⟩
                  | some x => simp only [Prod.mk.injEq] at hb; obtain ⟨rfl, rfl⟩ := hb; exact ⟨_, h, rfl⟩
                | false =>
                  simp only [] at h
                  obtain ⟨v, hb, h⟩ := asT_sound h
                  exact ⟨v, h, by subst hb; cases r <;> rfl⟩
              obtain ⟨v, hk, hv⟩ := hout
              have fin : ∀ w' : World, mpAt w' mr es → (execOp ρ ⟨dst, .lookup T m i ok, type, pos, after, guard⟩).run P w' = .ok (.value v) w' := by
                intro w' hmp'
                obtain ⟨hc, hfk⟩ := hf w'
                simp only [execOp, hev _ _ hm, hev _ _ hkey]
                refine run_v (s := Instr.lookup T (.map mr) key ok) ?_
                unfold Instr.lookup
                simp only [Sem.run_bind, run_underlying hu, Result.andThen_ok]
                cases mr with
                | none =>
                  simp only [mpAt] at hmp'; subst hmp'
                  simp only [Sem.run_bind, Sem.run_pure, Result.andThen_ok, hc, hfk]
                  cases r with
                  | none => simp only [Sem.run_bind, run_zeroValue hi hz, Result.andThen_ok, Sem.run_pure]; subst hv; cases ok <;> rfl
                  | some x => simp only [Sem.run_bind, Result.andThen_ok, Sem.run_pure]; subst hv; cases ok <;> rfl
                | some b =>
                  obtain ⟨c, hcc⟩ := hmp'
                  have : (getObj b).run P w' = .ok (.map es c) w' := by simp [getObj, Sem.run, hcc]
                  simp only [Sem.run_bind, this, Sem.run_pure, Result.andThen_ok, hc, hfk]
                  cases r with
                  | none => simp only [Sem.run_bind, run_zeroValue hi hz, Result.andThen_ok, Sem.run_pure]; subst hv; cases ok <;> rfl
                  | some x => simp only [Sem.run_bind, Result.andThen_ok, Sem.run_pure]; subst hv; cases ok <;> rfl
              refine ⟨v, hk, ?_, ?_⟩
              · cases mr with
                | none => simp [readsQ, hm]
                | some b =>
                  obtain ⟨c, hc⟩ := hmp
                  simp only [readsQ, hm, List.mem_singleton]
                  rintro rd rfl
                  show (w.heap[b]?).isSome = true
                  rw [hc]; rfl
              · intro w' hs
                refine fin w' ?_
                cases mr with
                | none => exact hmp
                | some b =>
                  obtain ⟨c, hc⟩ := hmp
                  have := hs (.obj b) (by simp [readsQ, hm])
                  exact ⟨c, by simp only [Rd.same] at this; rw [this]; exact hc⟩
        all_goals exact h.elim
    all_goals exact h.elim
  case call c =>
    obtain ⟨callee, args, argTypes⟩ := c
    cases callee
    case builtin b =>
      replace h := ws_sound h; obtain ⟨vs, hvs, h⟩ := h
      have hargs := evs_arr hev hvs
      have fin : ∀ {v : Value}, k v w → (∀ w', ((builtin b argTypes type (args.map fun | .const _ => true | _ => false) vs.toArray).run P w') = .ok (.value v) w') →
          ∃ v, k v w ∧ Ylds P ⟨dst, .call ⟨.builtin b, args, argTypes⟩, type, pos, after, guard⟩ ρ (readsQ P (.call ⟨.builtin b, args, argTypes⟩) ev) w v := by
        intro v hk hr
        exact ⟨v, hk, .pure fun w' => by simp only [execOp, resolve, hargs, pure_bind, Deferred.ofValue]; exact hr w'⟩
      obtain ⟨tys⟩ := argTypes
      have hmin : ∀ x y z, min2V x y = some z → ∀ w : World, (Builtin.min2 x y).run P w = .ok z w := by
        intro x y z hz w
        unfold min2V at hz
        split at hz
        · simp at hz; subst hz; simp [Builtin.min2]
        · cases hz
      have hmax : ∀ x y z, max2V x y = some z → ∀ w : World, (Builtin.max2 x y).run P w = .ok z w := by
        intro x y z hz w
        unfold max2V at hz
        split at hz
        · simp at hz; subst hz; simp [Builtin.max2]
        · cases hz
      have hlen : ∀ t v, tys = [t] → vs = [v] → (∀ w', (Builtin.len_ ⟨[t]⟩ type #[v]).run P w' = .ok (.int .i64 (match v with | .slice _ n _ => n | .string s => s.size | _ => 0)) w') → b = .len → k (.int .i64 (match v with | .slice _ n _ => n | .string s => s.size | _ => 0)) w →
          ∃ v, k v w ∧ Ylds P ⟨dst, .call ⟨.builtin b, args, ⟨tys⟩⟩, type, pos, after, guard⟩ ρ (readsQ P (.call ⟨.builtin b, args, ⟨tys⟩⟩) ev) w v := by
        intro t v ht hv hr hb hk
        subst ht hv hb
        exact fin hk fun w' => by simp only [builtin]; exact run_v (hr w')
      cases b
      case len =>
        cases tys with
        | nil => exact h.elim
        | cons t tys =>
          cases tys with
          | cons _ _ => exact h.elim
          | nil =>
            cases vs with
            | nil => exact h.elim
            | cons v vs =>
              cases vs with
              | cons _ _ => cases v <;> exact h.elim
              | nil =>
                rcases hu : P.underlying t with _ | d
                · cases v
                  case slice a n c => simp only [bltnQ, hu] at h; exact h.elim
                  case string s => simp only [bltnQ, hu] at h; exact h.elim
                  all_goals exact h.elim
                · cases v
                  case slice a n c =>
                    simp only [bltnQ, hu] at h
                    cases d
                    case slice e => exact hlen t _ rfl rfl (fun w' => by simp [Builtin.len_, run_underlying hu, goInt]) rfl h
                    all_goals exact h.elim
                  case string s =>
                    simp only [bltnQ, hu] at h
                    cases d
                    case string => exact hlen t _ rfl rfl (fun w' => by simp [Builtin.len_, run_underlying hu, goInt]) rfl h
                    all_goals exact h.elim
                  all_goals exact h.elim
      case cap =>
        cases tys with
        | nil => exact h.elim
        | cons t tys =>
          cases tys with
          | cons _ _ => exact h.elim
          | nil =>
            cases vs with
            | nil => exact h.elim
            | cons v vs =>
              cases vs with
              | cons _ _ => cases v <;> exact h.elim
              | nil =>
                rcases hu : P.underlying t with _ | d
                · cases v
                  case slice a n c => simp only [bltnQ, hu] at h; exact h.elim
                  all_goals exact h.elim
                · cases v
                  case slice a n c =>
                    simp only [bltnQ, hu] at h
                    cases d
                    case slice e => exact fin h fun w' => by simp [builtin, Builtin.cap_, run_underlying hu, goInt]
                    all_goals exact h.elim
                  all_goals exact h.elim
      case min =>
        cases vs with
        | nil => exact h.elim
        | cons v vs =>
          rcases hf : foldV min2V v vs with _ | u
          · simp only [bltnQ, hf] at h; exact h.elim
          · simp only [bltnQ, hf] at h
            exact fin h fun w' => by simp only [builtin, Builtin.min_]; exact run_v (foldV_sound hmin vs v u hf w')
      case max =>
        cases vs with
        | nil => exact h.elim
        | cons v vs =>
          rcases hf : foldV max2V v vs with _ | u
          · simp only [bltnQ, hf] at h; exact h.elim
          · simp only [bltnQ, hf] at h
            exact fin h fun w' => by simp only [builtin, Builtin.max_]; exact run_v (foldV_sound hmax vs v u hf w')
      all_goals exact h.elim
    all_goals exact h.elim
  all_goals exact h.elim

end Go.SX
