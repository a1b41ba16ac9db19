/- Plain arithmetic of words: the number modulo 2^31 that Wrap returns. Conditions: none. -/
import Derived.Laws.BitsLemmas
import Derived.RowKit
namespace Go.Proofs.Ytpeghecmojlcgaa
open Go.RowKit

theorem i64_and_mask (n : Int) : Go.bits .and .i64 n 2147483647 = n % 2147483648 := by
  have hm : (BitVec.ofInt 64 2147483647).toNat = 2 ^ 31 - 1 := by decide
  have key : (BitVec.ofInt 64 n &&& BitVec.ofInt 64 2147483647).toNat = (n % ((2 ^ 64 : Nat) : Int)).toNat % 2 ^ 31 := by
    rw [BitVec.toNat_and, BitVec.toNat_ofInt, hm, Nat.and_two_pow_sub_one_eq_mod]
  show IntKind.i64.wrap ((BitVec.ofInt 64 n &&& BitVec.ofInt 64 2147483647).toNat : Nat) = n % 2147483648
  rw [key, IntKind.wrap_i64]
  omega

/-- The word that is congruent to a number. -/
def wd (n : Int) : Int := (n + 1073741824) % 2147483648 - 1073741824

theorem wrap_val (a : Int) : wrap64 (Go.bits .and .i64 (wrap64 (a + 1073741824)) 2147483647 - 1073741824) = wd a := by
  rw [i64_and_mask]
  unfold wrap64 wd
  omega

theorem wd_wrap64 (a : Int) : wd (wrap64 a) = wd a := by
  unfold wrap64 wd
  omega

theorem wd_congr {a b : Int} (h : a % 2147483648 = b % 2147483648) : wd a = wd b := by
  unfold wd
  omega

theorem wd_mod (a : Int) : wd a % 2147483648 = a % 2147483648 := by
  unfold wd
  omega

theorem wd_mul (a b : Int) : wd (wd a * wd b) = wd (a * b) := by
  apply wd_congr
  rw [Int.mul_emod, wd_mod, wd_mod, ← Int.mul_emod]

theorem wd_mul_right (a b : Int) : wd (a * wd b) = wd (a * b) := by
  apply wd_congr
  rw [Int.mul_emod, wd_mod, ← Int.mul_emod]

theorem wd_mul_left (a b : Int) : wd (wd a * b) = wd (a * b) := by
  apply wd_congr
  rw [Int.mul_emod, wd_mod, ← Int.mul_emod]

theorem wd_add_right (a b : Int) : wd (a + wd b) = wd (a + b) := by
  unfold wd
  omega

theorem wd_add_left (a b : Int) : wd (wd a + b) = wd (a + b) := by
  unfold wd
  omega

theorem i64_and_one (n : Int) : Go.bits .and .i64 n 1 = n % 2 := by
  have hm : (BitVec.ofInt 64 1).toNat = 2 ^ 1 - 1 := by decide
  have key : (BitVec.ofInt 64 n &&& BitVec.ofInt 64 1).toNat = (n % ((2 ^ 64 : Nat) : Int)).toNat % 2 ^ 1 := by
    rw [BitVec.toNat_and, BitVec.toNat_ofInt, hm, Nat.and_two_pow_sub_one_eq_mod]
  show IntKind.i64.wrap ((BitVec.ofInt 64 n &&& BitVec.ofInt 64 1).toNat : Nat) = n % 2
  rw [key, IntKind.wrap_i64]
  omega

theorem wd_bd (a : Int) : -1073741824 ≤ wd a ∧ wd a < 1073741824 := by
  unfold wd
  omega


end Go.Proofs.Ytpeghecmojlcgaa
