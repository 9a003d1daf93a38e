/- A deferred call that finds no panic leaves all as it was. -/
import Derived.Test.YtlcaelckplknnaaGreatDoorXS16
import Derived.Recover
import Derived.WalkKit
import Derived.Test.YtlcaelckplknnaaGreatDoorProg
set_option linter.unusedVariables false
set_option linter.unusedSimpArgs false
set_option maxRecDepth 100000
namespace Go.TB
open Go Go.SX Go.XC Go.Proofs

def eo0 : Oper := { dst := some 5, op := .call { callee := .builtin .recover, args := #[], argTypes := #[] }, type := 20, pos := "exec.go:63", after := #[], guard := none }
def eo1 : Oper := { dst := some 2, op := .assign (.tmp 5), type := 20, pos := "exec.go:63", after := #[{ on := 0, ground := Ground.data }, { on := 0, ground := Ground.chain }, { on := 0, ground := Ground.phase }], guard := none }
def eo2 : Oper := { dst := some 6, op := .move (.tmp 2), type := 20, pos := "exec.go:64", after := #[], guard := none }
def eo3 : Oper := { dst := some 7, op := .binOp .eql 20 (.tmp 6) (.const .nilIface) 20, type := 4, pos := "exec.go:64", after := #[{ on := 0, ground := Ground.data }], guard := none }
noncomputable def ends3 : Code := match Tryz.f98.body with
  | some (.seq _ (.seq _ c)) => c
  | _ => .skip
theorem ends_body : Tryz.f98.body = some (.seq (.region 0 #[eo0, eo1] false) (.seq (.seq (.region 1 #[eo2, eo3] false) (.cond (.tmp 7) .ret .skip)) ends3)) := by kernel_rfl
theorem ends_n : Tryz.f98.ntmps = 61 := by kernel_rfl
theorem ends_res : Tryz.f98.results = #[] := by kernel_rfl
theorem results_nil {fn : Func} (h : fn.results = #[]) (tm : Array Value) (w : World) : (results fn tm).run Tryz.prog w = .ok (.tuple #[]) w := by
  simp [results, h]
theorem run_equalIn_ifnil {P : Program} (d : Nat) {T : TypeId} {l} (hu : P.underlying T = some (.interface l)) (w : World) : (Op.equalIn (d + 1) T .nilIface .nilIface).run P w = .ok true w := by
  simp [Op.equalIn, run_underlying hu]
theorem if20 : ∃ l, Tryz.prog.underlying 20 = some (.interface l) := by
  have h : (match Tryz.prog.underlying 20 with | some (.interface _) => true | _ => false) = true := by kernel_rfl
  split at h
  · rename_i l h1; exact ⟨l, h1⟩
  · cases h
theorem eql_nil (ρ : Operand → Value) (h : ρ (.tmp 6) = .nilIface) (h' : ρ (.const .nilIface) = .nilIface) (w : World) : (execOp ρ eo3).run Tryz.prog w = .ok (.value (.bool true)) w := by
  obtain ⟨l, hu⟩ := if20
  have he : (Op.equal 20 .nilIface .nilIface).run Tryz.prog w = .ok true w := run_equalIn_ifnil 9999 hu w
  simp [execOp, eo3, eqGuard, h, h', binOp, he]

section
variable {P : Program}
theorem opsS_rec {ops : Array Oper} {Q : Exit → Act → List Frame → World → Prop} {i : Nat} {rest : List Nat} {o : Oper} {a : Act} {cs : List Frame} {w : World} (ho : ops[i]? = some o) (hg : o.guard = none) (hr : (execOp a.eval o).run P w = .ok .recover w) (hn : recoverD cs = none) (h : wpOpsS P ops Q rest (a.put o.dst .nilIface) cs w) : wpOpsS P ops Q (i :: rest) a cs w := by
  simp [wpOpsS, ho, Region.wanted, hg, hr, hn, h]
theorem opsS_val {ops : Array Oper} {Q : Exit → Act → List Frame → World → Prop} {i : Nat} {rest : List Nat} {o : Oper} {a : Act} {cs : List Frame} {w w' : World} {v : Value} (ho : ops[i]? = some o) (hg : o.guard = none) (hr : (execOp a.eval o).run P w = .ok (.value v) w') (h : wpOpsS P ops Q rest (a.put o.dst v) cs w') : wpOpsS P ops Q (i :: rest) a cs w := by
  simp [wpOpsS, ho, Region.wanted, hg, hr, Oper.upon, h]
theorem ops_val {ops : Array Oper} {Q : Exit → Act → World → Prop} {i : Nat} {rest : List Nat} {o : Oper} {a : Act} {w w' : World} {v : Value} (ho : ops[i]? = some o) (hg : o.guard = none) (hr : (execOp a.eval o).run P w = .ok (.value v) w') (h : wpOps P ops Q rest (a.put o.dst v) w') : wpOps P ops Q (i :: rest) a w := by
  simp [wpOps, ho, Region.wanted, hg, Oper.wp, hr, Oper.upon, h]
theorem ops_def {ops : Array Oper} {Q : Exit → Act → World → Prop} {i : Nat} {rest : List Nat} {o : Oper} {a : Act} {w : World} {d : Deferred} (ho : ops[i]? = some o) (hg : o.guard = none) (hr : (execOp a.eval o).run P w = .ok (.defer d) w) (h : wpOps P ops Q rest ({ a with defers := d :: a.defers }.put o.dst undef) w) : wpOps P ops Q (i :: rest) a w := by
  simp [wpOps, ho, Region.wanted, hg, Oper.wp, hr, Oper.upon, h]
end

theorem eval_put {a : Act} {t : Nat} {v : Value} (h : t < a.tmps.size) : (a.put (some t) v).eval (.tmp t) = v := by
  simp [Act.put, Act.eval, h]

theorem ends_nil (q : Addr) (w : World) : CallsD Tryz.prog 98 #[.pointer (some q)] .returning w (fun e u' w' => e = .returned (.tuple #[]) ∧ u' = .returning ∧ w' = w) := by
  refine callsD_of_wpS Tryz.func98 ends_body fun c₀ cs hu => ?_
  refine wpS_seq (wpS_region ?_)
  have hr : recoverD (c₀ :: cs) = none := by simp [recoverD, hu]
  have hsz : ((#[.pointer (some q)] : Array Value) ++ Array.replicate (Tryz.f98.ntmps - (#[.pointer (some q)] : Array Value).size) undef).size = 61 := by rw [ends_n]; simp
  generalize ((#[.pointer (some q)] : Array Value) ++ Array.replicate (Tryz.f98.ntmps - (#[.pointer (some q)] : Array Value).size) undef) = tm at hsz
  show wpOpsS _ _ _ [0, 1] _ _ _
  refine opsS_rec (o := eo0) rfl rfl (by simp [execOp, resolve, invoke, builtin, eo0]) hr ?_
  refine opsS_val (o := eo1) (v := .nilIface) (w' := w) rfl rfl (by simp [execOp, eo1, eo0, Act.put, Act.eval, hsz]) ?_
  show Code.wpS _ _ _ _ _ _
  refine wpS_of_wp (wp_seq (wp_seq (wp_region ?_)))
  show wpOps _ _ _ [0, 1] _ _
  refine ops_val (o := eo2) (v := .nilIface) (w' := w) rfl rfl (by simp [execOp, eo2, eo1, eo0, Act.put, Act.eval, hsz]) ?_
  refine ops_val (o := eo3) (v := .bool true) (w' := w) rfl rfl (eql_nil _ (by simp [eo2, eo1, eo0, Act.put, Act.eval, hsz]) rfl w) ?_
  show Code.wp _ _ _ _ _
  refine wp_cond_true (by simp [eo3, eo2, eo1, eo0, Act.put, Act.eval, hsz]) (wp_ret ?_)
  refine ⟨rfl, .returning, ?_, _, results_nil ends_res _ _, rfl, rfl, rfl⟩
  rw [← hu]
end Go.TB
