/-
  Small facts on Go's arithmetic of bits, as the walks spell it.
  Conditions: none.
-/
import Derived.Test.YtpfalaghggjbjaaBase
import Derived.Test.YtpfalaghggjbjaaPlC
namespace Go.Proofs.Ytpfalaghggjbjaa
open Go.RowKit

theorem wrap_small_i64 {x : Int} (h0 : -9223372036854775808 ≤ x) (h1 : x ≤ 9223372036854775807) : IntKind.i64.wrap x = x := IntWalk.i64_in _ (by omega)
theorem and_one (x : Int) : bits .and .i64 x 1 = x % 2 := by
  show IntKind.i64.wrap (((BitVec.ofInt 64 x &&& BitVec.ofInt 64 1).toNat : Nat) : Int) = _
  have h : (BitVec.ofInt 64 x &&& BitVec.ofInt 64 1).toNat = (x % 2).toNat := by
    rw [BitVec.toNat_and, BitVec.toNat_ofInt, BitVec.toNat_ofInt]
    have : ((1 : Int) % ((2 ^ 64 : Nat) : Int)).toNat = 1 := by decide
    rw [this, Nat.and_one_is_mod]
    omega
  rw [h]
  rw [wrap_small_i64 (by omega) (by omega)]
  omega
theorem or_bits (c : UInt8) (y : Nat) (hy : y < 256) : bits .or .u8 (c.toNat : Int) (y : Int) = ((UInt8.ofNat (c.toNat ||| y)).toNat : Int) := by
  show IntKind.u8.wrap (((BitVec.ofInt 8 (c.toNat : Int) ||| BitVec.ofInt 8 (y : Int)).toNat : Nat) : Int) = _
  have hc := c.toNat_lt
  have h : (BitVec.ofInt 8 (c.toNat : Int) ||| BitVec.ofInt 8 (y : Int)).toNat = c.toNat ||| y := by
    rw [BitVec.toNat_or, BitVec.toNat_ofInt, BitVec.toNat_ofInt]
    congr 1 <;> omega
  rw [h]
  have h2 : c.toNat ||| y < 2 ^ 8 := Nat.or_lt_two_pow (by omega) (by omega)
  rw [UInt8.toNat_ofNat']
  have : IntKind.u8.wrap ((c.toNat ||| y : Nat) : Int) = ((c.toNat ||| y : Nat) : Int) := by
    have hs : IntKind.u8.signed = false := rfl
    simp [IntKind.wrap, IntKind.bits, hs]
    omega
  rw [this]
  congr 1
  omega
theorem or_bit (c : UInt8) (x : Int) (k : Nat) (hk : k < 8) : bits .or .u8 (c.toNat : Int) (bits .and .i64 x 1 % 256 * 2 ^ k % 256) = ((orBit c k (bitOf x 0)).toNat : Int) := by
  rw [and_one]
  have hp : 2 ^ k < 2 ^ 8 := Nat.pow_lt_pow_right (by omega) hk
  have h1 : (x % 2 % 256 * 2 ^ k % 256 : Int) = ((bitOf x 0 * 2 ^ k : Nat) : Int) := by
    unfold bitOf
    have e : (x / 2 ^ 0 : Int) = x := by simp
    rw [e]
    rcases (show x % 2 = 0 ∨ x % 2 = 1 by omega) with h | h
    · rw [h]; simp
    · have e2 : ((2 : Int) ^ k) = ((2 ^ k : Nat) : Int) := by simp
      have e3 : ∀ q : Nat, q < 256 → (1 % 256 * (q : Int) % 256 : Int) = (q : Int) := by intro q hq; omega
      have e3 := e3 (2 ^ k) (by omega)
      rw [h, e2, e3]; simp
  rw [h1, or_bits]
  · rfl
  · have := bitOf_lt x 0
    have : bitOf x 0 * 2 ^ k ≤ 1 * 2 ^ k := Nat.mul_le_mul_right _ (by omega)
    omega
theorem or_bit' (c : UInt8) (x k : Nat) (hx : x < 2) (hk : k < 8) : bits .or .u8 (c.toNat : Int) ((x : Int) * 2 ^ k % 256) = ((orBit c k x).toNat : Int) := by
  have hp : 2 ^ k < 2 ^ 8 := Nat.pow_lt_pow_right (by omega) hk
  have e2 : ((2 : Int) ^ k) = ((2 ^ k : Nat) : Int) := by simp
  have hm : x * 2 ^ k ≤ 1 * 2 ^ k := Nat.mul_le_mul_right _ (by omega)
  have h1 : ((x : Int) * 2 ^ k % 256 : Int) = ((x * 2 ^ k : Nat) : Int) := by
    rw [e2, ← Int.natCast_mul]
    generalize x * 2 ^ k = q at *
    omega
  rw [h1, or_bits _ _ (by omega)]
  rfl
theorem wrap_u64 (k : Nat) (hk : k < 9223372036854775808) : IntKind.u64.wrap (k : Int) = (k : Int) := by
  have hs : IntKind.u64.signed = false := rfl
  simp [IntKind.wrap, IntKind.bits, hs]
  omega
theorem and_shift (x : Int) (k : Nat) (hk : k < 64) : bits .and .i64 (x / 2 ^ min (IntKind.u64.wrap (k : Int)).toNat 64) 1 = ((bitOf x k : Nat) : Int) := by
  rw [and_one, wrap_u64 k (by omega)]
  have : min ((k : Int)).toNat 64 = k := by omega
  rw [this]
  unfold bitOf
  omega
end Go.Proofs.Ytpfalaghggjbjaa
