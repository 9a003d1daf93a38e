/- Plain laws: bytes and numbers. -/
import Derived.Test.YtlcaelckplknnaaGreatTbBits
import Derived.Test.YtlcaelckplknnaaGreatSXLib
set_option linter.unusedVariables false
set_option linter.unusedSimpArgs false
namespace Go.TB
open Go Go.SX

/-- a byte as a cell -/
def vb (x : UInt8) : Value := .int .u8 (x.toNat : Int)
/-- bytes as a number, the lowest first -/
def getL : List UInt8 → Nat
  | [] => 0
  | x :: l => x.toNat + 256 * getL l
/-- a number as n bytes -/
def putL : Nat → Nat → List UInt8
  | 0, _ => []
  | n + 1, v => UInt8.ofNat v :: putL n (v / 256)

theorem getL_lt : ∀ (l : List UInt8), getL l < 256 ^ l.length
  | [] => by simp [getL]
  | x :: l => by
    have h1 := getL_lt l
    have h2 := x.toNat_lt
    simp only [getL, List.length_cons, Nat.pow_succ]
    omega
theorem getL_append : ∀ (l m : List UInt8), getL (l ++ m) = getL l + 256 ^ l.length * getL m
  | [], m => by simp [getL]
  | x :: l, m => by
    simp only [List.cons_append, getL, getL_append l m, List.length_cons, Nat.pow_succ]
    rw [Nat.mul_add, Nat.add_assoc, ← Nat.mul_assoc, Nat.mul_comm 256 (256 ^ l.length)]
theorem putL_length : ∀ (n v : Nat), (putL n v).length = n
  | 0, _ => rfl
  | n + 1, v => by simp [putL, putL_length n]
theorem getL_putL : ∀ (n v : Nat), getL (putL n v) = v % 256 ^ n
  | 0, v => by simp [putL, getL, Nat.mod_one]
  | n + 1, v => by
    simp only [putL, getL, getL_putL n, UInt8.toNat_ofNat']
    have h1 : v % 256 ^ (n + 1) = v % 256 + 256 * (v / 256 % 256 ^ n) := by
      rw [Nat.pow_succ, Nat.mul_comm (256 ^ n) 256, Nat.mod_mul]
    rw [h1]
theorem putL_getL : ∀ (l : List UInt8), putL l.length (getL l) = l
  | [] => rfl
  | x :: l => by
    simp only [List.length_cons, putL, getL]
    have h2 := x.toNat_lt
    have e1 : (x.toNat + 256 * getL l) / 256 = getL l := by omega
    rw [e1, putL_getL l]
    congr 1
    apply UInt8.toNat_inj.1
    rw [UInt8.toNat_ofNat']
    omega
theorem putL_get : ∀ (n v k : Nat), k < n → (putL n v)[k]? = some (UInt8.ofNat (v / 256 ^ k))
  | n + 1, v, 0, _ => by simp [putL]
  | n + 1, v, k + 1, h => by
    simp only [putL, List.getElem?_cons_succ]
    rw [putL_get n (v / 256) k (by omega), Nat.div_div_eq_div_mul, Nat.pow_succ, Nat.mul_comm]

theorem pow256 (k : Nat) : 256 ^ k = 2 ^ (8 * k) := by rw [Nat.pow_mul]

theorem bOr_nat {a b : Nat} (ha : a < 18446744073709551616) (hb : b < 18446744073709551616) : bOr .u64 (a : Int) (b : Int) = ((a ||| b : Nat) : Int) := by
  have h1 : (a : Int) = ((BitVec.ofNat 64 a).toNat : Int) := by rw [BitVec.toNat_ofNat]; omega
  have h2 : (b : Int) = ((BitVec.ofNat 64 b).toNat : Int) := by rw [BitVec.toNat_ofNat]; omega
  rw [h1, h2, bOr_u, BitVec.toNat_or, BitVec.toNat_ofNat, BitVec.toNat_ofNat, Nat.mod_eq_of_lt (a := a) (by simpa using ha), Nat.mod_eq_of_lt (a := b) (by simpa using hb)]
theorem bShl_nat {a : Nat} (ha : a < 18446744073709551616) {n : Nat} (hn : n ≤ 64) : bShl .u64 (a : Int) (n : Int) = ((a * 2 ^ n % 18446744073709551616 : Nat) : Int) := by
  have h1 : (a : Int) = ((BitVec.ofNat 64 a).toNat : Int) := by rw [BitVec.toNat_ofNat]; omega
  rw [h1, bShl_u _ _ hn, BitVec.toNat_shiftLeft, Nat.shiftLeft_eq, BitVec.toNat_ofNat]
  rw [Nat.mod_eq_of_lt (a := a) (by simpa using ha)]
theorem bShr_nat {a : Nat} (ha : a < 18446744073709551616) {n : Nat} (hn : n ≤ 64) : bShr .u64 (a : Int) (n : Int) = ((a / 2 ^ n : Nat) : Int) := by
  have h1 : (a : Int) = ((BitVec.ofNat 64 a).toNat : Int) := by rw [BitVec.toNat_ofNat]; omega
  rw [h1, bShr_u _ _ hn, BitVec.toNat_ushiftRight, Nat.shiftRight_eq_div_pow]
  rw [BitVec.toNat_ofNat, Nat.mod_eq_of_lt (a := a) (by simpa using ha)]

/-- one byte more -/
theorem or_byte {v x k : Nat} (hk : k < 8) (hv : v < 256 ^ k) (hx : x < 256) : bOr .u64 (v : Int) (bShl .u64 (x : Int) ((8 * k : Nat) : Int)) = ((v + 256 ^ k * x : Nat) : Int) := by
  have hp : 256 ^ k ≤ 256 ^ 7 := Nat.pow_le_pow_right (by omega) (by omega)
  have h7 : (256 : Nat) ^ 7 = 72057594037927936 := by decide
  have hm : x * 2 ^ (8 * k) < 18446744073709551616 := by
    rw [← pow256]
    have : x * 256 ^ k ≤ 255 * 256 ^ k := Nat.mul_le_mul_right _ (by omega)
    omega
  rw [bShl_nat (by omega) (by omega), Nat.mod_eq_of_lt hm, bOr_nat (by omega) hm]
  congr 1
  rw [pow256] at hv ⊢
  have := Nat.shiftLeft_add_eq_or_of_lt hv x
  rw [Nat.shiftLeft_eq] at this
  rw [Nat.or_comm, ← this, Nat.add_comm, Nat.mul_comm]

theorem wrap_i64 {n : Int} (h0 : -9223372036854775808 ≤ n) (h1 : n < 9223372036854775808) : IntKind.i64.wrap n = n := wrap_i64_in h0 h1
theorem wrap_u8_nat (n : Nat) : IntKind.u8.wrap (n : Int) = ((n % 256 : Nat) : Int) := by
  show (n : Int) % 256 = _
  omega

end Go.TB
