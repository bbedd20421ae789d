/- Small facts on whole numbers: a mask is a remainder, of numbers below 0, too. -/
import Derived.Laws.BitsLemmas
import Derived.RowKit
namespace Go.Proofs.Ytjmlloiolppoiaa.Num
open Go.RowKit

theorem and_mask64 (x : Int) (i : Nat) (hi : i ≤ 62) : Go.bits .and .i64 x (2 ^ i - 1) = x % 2 ^ i := by
  have hpos : 0 < 2 ^ i := Nat.two_pow_pos i
  have hle : (2 : Nat) ^ i ≤ 2 ^ 62 := Nat.pow_le_pow_right (by decide) hi
  have hc : ((2 : Int) ^ i - 1) = ((2 ^ i - 1 : Nat) : Int) := by
    rw [Int.natCast_sub hpos]; simp
  have h1 : (2 ^ i - 1 : Nat) % 2 ^ 64 = 2 ^ i - 1 := Nat.mod_eq_of_lt (by omega)
  have hv : (BitVec.ofInt 64 x &&& BitVec.ofNat 64 (2 ^ i - 1)).toNat = (x % ((2 ^ 64 : Nat) : Int)).toNat % 2 ^ i := by
    rw [BitVec.toNat_and, BitVec.toNat_ofInt, BitVec.toNat_ofNat, h1, Nat.and_two_pow_sub_one_eq_mod]
  have h2 : ((x % ((2 ^ 64 : Nat) : Int)).toNat % 2 ^ i : Nat) < 2 ^ i := Nat.mod_lt _ hpos
  have h3 : (((x % ((2 ^ 64 : Nat) : Int)).toNat % 2 ^ i : Nat) : Int) = x % 2 ^ i := by
    rw [Int.natCast_emod, Int.toNat_of_nonneg (Int.emod_nonneg _ (by decide))]
    have hd : ((2 ^ i : Nat) : Int) ∣ ((2 ^ 64 : Nat) : Int) := by
      exact_mod_cast Nat.pow_dvd_pow 2 (by omega)
    rw [Int.emod_emod_of_dvd _ hd]
    simp
  have h7 : Go.bits .and .i64 x ((2 ^ i - 1 : Nat) : Int) = IntKind.i64.wrap (((x % ((2 ^ 64 : Nat) : Int)).toNat % 2 ^ i : Nat) : Int) := by
    rw [← hv]
    show IntKind.i64.wrap ((BitVec.ofInt 64 x &&& BitVec.ofInt 64 ((2 ^ i - 1 : Nat) : Int)).toNat : Int) = _
    rw [BitVec.ofInt_natCast]
  rw [hc, h7, IntKind.wrap_i64, ← h3]
  generalize (x % ((2 ^ 64 : Nat) : Int)).toNat % 2 ^ i = z at *
  omega

theorem and3 (x : Int) : Go.bits .and .i64 x 3 = x % 4 := and_mask64 x 2 (by decide)
theorem and7 (x : Int) : Go.bits .and .i64 x 7 = x % 8 := and_mask64 x 3 (by decide)
theorem and1 (x : Int) : Go.bits .and .i64 x 1 = x % 2 := and_mask64 x 1 (by decide)
theorem and31 (x : Int) : Go.bits .and .i64 x 31 = x % 32 := and_mask64 x 5 (by decide)
theorem and255 (x : Int) : Go.bits .and .i64 x 255 = x % 256 := and_mask64 x 8 (by decide)
theorem and65535 (x : Int) : Go.bits .and .i64 x 65535 = x % 65536 := and_mask64 x 16 (by decide)
theorem and255_u8 (x : Int) (h0 : 0 ≤ x) (h1 : x ≤ 255) : Go.bits .and .u8 x 255 = x := by
  have := bits_mask .u8 8 (by decide) wraps_u8 8 (by decide) x h0 (by omega)
  rw [show ((2 : Int) ^ 8 - 1) = 255 from rfl] at this
  rw [this]
  show x % 256 = x
  omega
theorem tmod_pos (x y : Int) (h : 0 ≤ x) : Int.tmod x y = x % y := Int.tmod_eq_emod_of_nonneg h

end Go.Proofs.Ytjmlloiolppoiaa.Num
