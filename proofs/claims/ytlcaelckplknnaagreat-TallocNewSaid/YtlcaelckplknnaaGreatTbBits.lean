/- Plain laws: 64-bit numbers. -/
import Derived.Test.YtlcaelckplknnaaGreatSXEval
set_option linter.unusedVariables false
set_option linter.unusedSimpArgs false
namespace Go.TB
open Go Go.SX

abbrev U := BitVec 64

theorem wrap_u64 (n : Int) : IntKind.u64.wrap n = n % 18446744073709551616 := rfl
theorem wrap_u64_nat (n : Nat) : IntKind.u64.wrap (n : Int) = ((n % 18446744073709551616 : Nat) : Int) := by rw [wrap_u64]; omega
theorem ofInt_nat (x : U) : BitVec.ofInt 64 (x.toNat : Int) = x := by
  apply BitVec.eq_of_toNat_eq
  rw [BitVec.toNat_ofInt]
  have := x.isLt
  omega
theorem bXor_u (x y : U) : bXor .u64 (x.toNat : Int) (y.toNat : Int) = ((x ^^^ y).toNat : Int) := by
  unfold bXor
  show IntKind.u64.wrap ((BitVec.ofInt 64 (x.toNat : Int) ^^^ BitVec.ofInt 64 (y.toNat : Int)).toNat : Int) = _
  rw [ofInt_nat, ofInt_nat, wrap_u64]
  have := (x ^^^ y).isLt
  omega
theorem bOr_u (x y : U) : bOr .u64 (x.toNat : Int) (y.toNat : Int) = ((x ||| y).toNat : Int) := by
  unfold bOr
  show IntKind.u64.wrap ((BitVec.ofInt 64 (x.toNat : Int) ||| BitVec.ofInt 64 (y.toNat : Int)).toNat : Int) = _
  rw [ofInt_nat, ofInt_nat, wrap_u64]
  have := (x ||| y).isLt
  omega
theorem bAnd_u (x y : U) : bAnd .u64 (x.toNat : Int) (y.toNat : Int) = ((x &&& y).toNat : Int) := by
  unfold bAnd
  show IntKind.u64.wrap ((BitVec.ofInt 64 (x.toNat : Int) &&& BitVec.ofInt 64 (y.toNat : Int)).toNat : Int) = _
  rw [ofInt_nat, ofInt_nat, wrap_u64]
  have := (x &&& y).isLt
  omega
theorem bAndNot_u (x y : U) : bAndNot .u64 (x.toNat : Int) (y.toNat : Int) = ((x &&& ~~~ y).toNat : Int) := by
  unfold bAndNot
  show IntKind.u64.wrap ((BitVec.ofInt 64 (x.toNat : Int) &&& ~~~ BitVec.ofInt 64 (y.toNat : Int)).toNat : Int) = _
  rw [ofInt_nat, ofInt_nat, wrap_u64]
  have := (x &&& ~~~ y).isLt
  omega
theorem wadd_u (x y : U) : IntKind.u64.wrap ((x.toNat : Int) + (y.toNat : Int)) = ((x + y).toNat : Int) := by
  rw [wrap_u64, BitVec.toNat_add]; omega
theorem wmul_u (x y : U) : IntKind.u64.wrap ((x.toNat : Int) * (y.toNat : Int)) = ((x * y).toNat : Int) := by
  rw [wrap_u64, BitVec.toNat_mul]
  rw [← Int.natCast_mul]; omega
theorem wint_u (n : Int) : IntKind.u64.wrap n = ((BitVec.ofInt 64 n).toNat : Int) := by
  rw [wrap_u64, BitVec.toNat_ofInt]
  omega
theorem bShr_u (x : U) (n : Nat) (h : n ≤ 64) : bShr .u64 (x.toNat : Int) (n : Int) = ((x >>> n).toNat : Int) := by
  unfold bShr
  have e : min (n : Int).toNat IntKind.u64.bits = n := by
    show min (n : Int).toNat 64 = n
    rw [Int.toNat_natCast]; omega
  rw [e, BitVec.toNat_ushiftRight, Nat.shiftRight_eq_div_pow]
  rw [Int.fdiv_eq_ediv_of_nonneg _ (by exact Int.le_of_lt (Int.pow_pos (by decide)))]
  norm_cast
theorem bShl_u (x : U) (n : Nat) (h : n ≤ 64) : bShl .u64 (x.toNat : Int) (n : Int) = ((x <<< n).toNat : Int) := by
  unfold bShl
  have e : min (n : Int).toNat IntKind.u64.bits = n := by
    show min (n : Int).toNat 64 = n
    rw [Int.toNat_natCast]; omega
  rw [e, wrap_u64, BitVec.toNat_shiftLeft, Nat.shiftLeft_eq]
  have h1 : (x.toNat : Int) * 2 ^ n = ((x.toNat * 2 ^ n : Nat) : Int) := by rw [Int.natCast_mul, Int.natCast_pow]; rfl
  rw [h1]
  generalize x.toNat * 2 ^ n = m
  rw [show (2 : Nat) ^ 64 = 18446744073709551616 by decide]
  omega
theorem tdiv_u (x : U) (k : Nat) : (x.toNat : Int).tdiv (2 ^ k) = ((x >>> k).toNat : Int) := by
  rw [BitVec.toNat_ushiftRight, Nat.shiftRight_eq_div_pow]
  rw [Int.tdiv_eq_ediv_of_nonneg (by omega)]
  norm_cast
theorem lt_u (x : U) : (x.toNat : Int) < 18446744073709551616 := by have := x.isLt; omega
theorem wrap_u (x : U) : IntKind.u64.wrap (x.toNat : Int) = (x.toNat : Int) := by rw [wrap_u64]; have := x.isLt; omega
theorem u_inj {x y : U} : (x.toNat : Int) = (y.toNat : Int) ↔ x = y := by
  constructor
  · intro h; exact BitVec.eq_of_toNat_eq (by omega)
  · rintro rfl; rfl

/-! the mix (link, ref06) -/
def c1 : U := 0xBF58476D1CE4E5B9#64
def c2 : U := 0x94D049BB133111EB#64
def gold : U := 0x9E3779B97F4A7C15#64
def mix (x : U) : U :=
  let a := (x ^^^ (x >>> 30)) * c1
  let b := (a ^^^ (a >>> 27)) * c2
  b ^^^ (b >>> 31)

end Go.TB
