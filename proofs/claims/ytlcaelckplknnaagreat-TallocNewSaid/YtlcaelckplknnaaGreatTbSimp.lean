/- Words as rewritings: a walk by simp. -/
import Derived.Test.YtlcaelckplknnaaGreatTbOwn
import Derived.Test.YtlcaelckplknnaaGreatTbNum
set_option linter.unusedVariables false
set_option linter.unusedSimpArgs false
namespace Go.TB
open Go Go.SX

/-- a cell of a block -/
def gcell (w : World) (b o : Nat) : Option Value := (cel w b).bind (·[o]?)
theorem ld_s {b o : Nat} {k : Sl → M} {w : World} : ld .ks ⟨b, o, none⟩ k w ↔ ∃ d : Sl, (cel w b).bind (·[o]?) = some (.slice d.a d.len d.cap) ∧ k d w := by
  unfold ld; constructor
  · rintro ⟨d, h1, h2⟩; exact ⟨d, by rw [cell_cel] at h1; exact h1, h2⟩
  · rintro ⟨d, h1, h2⟩; exact ⟨d, by rw [cell_cel]; exact h1, h2⟩
theorem ld_i {b o : Nat} {t : IntKind} {k : Int → M} {w : World} : ld (.ki t) ⟨b, o, none⟩ k w ↔ ∃ d : Int, (cel w b).bind (·[o]?) = some (.int t d) ∧ k d w := by
  unfold ld; constructor
  · rintro ⟨d, h1, h2⟩; exact ⟨d, by rw [cell_cel] at h1; exact h1, h2⟩
  · rintro ⟨d, h1, h2⟩; exact ⟨d, by rw [cell_cel]; exact h1, h2⟩
theorem ld_p {b o : Nat} {k : Option Addr → M} {w : World} : ld .kp ⟨b, o, none⟩ k w ↔ ∃ d : Option Addr, (cel w b).bind (·[o]?) = some (.pointer d) ∧ k d w := by
  unfold ld; constructor
  · rintro ⟨d, h1, h2⟩; exact ⟨d, by rw [cell_cel] at h1; exact h1, h2⟩
  · rintro ⟨d, h1, h2⟩; exact ⟨d, by rw [cell_cel]; exact h1, h2⟩
theorem ld_b {b o : Nat} {k : Bool → M} {w : World} : ld .kb ⟨b, o, none⟩ k w ↔ ∃ d : Bool, (cel w b).bind (·[o]?) = some (.bool d) ∧ k d w := by
  unfold ld; constructor
  · rintro ⟨d, h1, h2⟩; exact ⟨d, by rw [cell_cel] at h1; exact h1, h2⟩
  · rintro ⟨d, h1, h2⟩; exact ⟨d, by rw [cell_cel]; exact h1, h2⟩
theorem ex_sl {a : Option Addr} {n c : Nat} {P : Sl → Prop} : (∃ d : Sl, (a = d.a ∧ n = d.len ∧ c = d.cap) ∧ P d) ↔ P ⟨a, n, c⟩ := by
  constructor
  · rintro ⟨⟨_, _, _⟩, ⟨rfl, rfl, rfl⟩, h⟩; exact h
  · intro h; exact ⟨_, ⟨rfl, rfl, rfl⟩, h⟩
theorem xd_i {t : IntKind} {k : Int → M} {w : World} : xd (.ki t) k w ↔ ∃ d : Int, k d w := Iff.rfl
theorem xd_b {k : Bool → M} {w : World} : xd .kb k w ↔ ∃ d : Bool, k d w := Iff.rfl
theorem xd_p {k : Option Addr → M} {w : World} : xd .kp k w ↔ ∃ d : Option Addr, k d w := Iff.rfl
theorem xd_s {k : Sl → M} {w : World} : xd .ks k w ↔ ∃ d : Sl, k d w := Iff.rfl
theorem xd_m {k : Option Nat → M} {w : World} : xd .km k w ↔ ∃ d : Option Nat, k d w := Iff.rfl
theorem rq_iff {p : Prop} {k : M} {w : World} : rq p k w ↔ p ∧ k w := by unfold rq; exact Iff.rfl
theorem br_if {b : Bool} {x y : M} {w : World} : br b x y w ↔ if b = true then x w else y w := by cases b <;> exact Iff.rfl

theorem dr_iff {k : M} {w : World} : dr k w ↔ k w.drew := Iff.rfl
theorem cel_drew (w : World) (b : Nat) : cel w.drew b = cel w b := rfl
theorem frz_drew (w : World) (b : Nat) : frz w.drew b = frz w b := rfl
theorem kp_iff {ks : List Rd} {w0 w : World} {k : M} : kp ks w0 k w ↔ (∀ r ∈ ks, r.same w0 w) ∧ k w := Iff.rfl
/-- what was read is as it was -/
theorem same_cells {w0 w : World} {b o n : Nat} (h : cel w b = cel w0 b) : Rd.same w0 w (.cells ⟨b, o, none⟩ n) := by
  intro i hi
  rw [add_mk, cell_cel, cell_cel, h]

theorem tup1 {a b : Value} : Value.tuple #[a] = Value.tuple #[b] ↔ a = b := by simp
theorem tup2 {a b c d : Value} : Value.tuple #[a, b] = Value.tuple #[c, d] ↔ a = c ∧ b = d := by simp
theorem tup3 {a b c d e f : Value} : Value.tuple #[a, b, c] = Value.tuple #[d, e, f] ↔ a = d ∧ b = e ∧ c = f := by simp
theorem ex2 {α β : Type} {a : α} {b : β} {P : α → β → Prop} : (∃ x y, (a = x ∧ b = y) ∧ P x y) ↔ P a b :=
  ⟨fun ⟨_, _, ⟨rfl, rfl⟩, h⟩ => h, fun h => ⟨_, _, ⟨rfl, rfl⟩, h⟩⟩
theorem ex3 {α β γ : Type} {a : α} {b : β} {c : γ} {P : α → β → γ → Prop} : (∃ x y z, (a = x ∧ b = y ∧ c = z) ∧ P x y z) ↔ P a b c :=
  ⟨fun ⟨_, _, _, ⟨rfl, rfl, rfl⟩, h⟩ => h, fun h => ⟨_, _, _, ⟨rfl, rfl, rfl⟩, h⟩⟩

/-! the arena -/
/-- a cell and a block of bytes -/
structure ArenaAt (w : World) (ar bb : Nat) (B : List UInt8) : Prop where
  own : cel w ar = some [.slice (some ⟨bb, 0, none⟩) B.length B.length]
  byt : cel w bb = some (B.map vb)
  fz : frz w bb = (0, 0)
  len : B.length ≤ 2 ^ 30
end Go.TB
