/- Bits of the wire's numbers, as plain numbers. -/
import Derived.WalkKit
import Derived.Test.YtjhciobkofnjfaaWireMath
namespace Go.Proofs.Ytjhciobkofnjfaa
open WM Go.RowKit

theorem or128_nat : ∀ x : Nat, x < 256 → x ||| 128 = x % 128 + 128 := by decide +kernel
theorem bits_or128 (n : Nat) : bits .or .u8 ((n : Int) % 256) 128 = ((n % 128 + 128 : Nat) : Int) := by
  have h : (n : Int) % 256 = ((n % 256 : Nat) : Int) := by omega
  rw [h, u8_or _ _ (by omega) (by omega) (by omega) (by omega), Int.toNat_natCast, show (128 : Int).toNat = 128 from rfl, or128_nat _ (by omega)]
  omega

theorem zz_pos {v : Int} (h1 : 0 ≤ v) (h2 : v ≤ 9223372036854775807) : bits .xor .u64 (v * 2) (v / 9223372036854775808) = ((zz v : Nat) : Int) := by
  have h0 : v / 9223372036854775808 = 0 := by omega
  rw [h0, u64_xor _ _ (by omega) (by omega) (by omega) (by omega)]
  simp [zz, h1]
  omega

theorem xor_ones (x : Nat) (h : x < 18446744073709551616) : x ^^^ 18446744073709551615 = 18446744073709551615 - x := by
  have hb : (BitVec.ofNat 64 x ^^^ BitVec.allOnes 64) = ~~~ (BitVec.ofNat 64 x) := BitVec.xor_allOnes
  have := congrArg BitVec.toNat hb
  rw [BitVec.toNat_xor, BitVec.toNat_not, BitVec.toNat_ofNat, BitVec.toNat_allOnes] at this
  rw [Nat.mod_eq_of_lt (by simpa using h)] at this
  simpa using this

theorem zz_neg {v : Int} (h1 : v < 0) (h2 : -9223372036854775808 ≤ v) :
    bits .xor .u64 (IntKind.u64.wrap (IntKind.u64.wrap v * 2)) (IntKind.u64.wrap (v / 9223372036854775808)) = ((zz v : Nat) : Int) := by
  have e1 : IntKind.u64.wrap (v / 9223372036854775808) = 18446744073709551615 := by rw [IntKind.wrap_u64]; omega
  have e2 : IntKind.u64.wrap (IntKind.u64.wrap v * 2) = 18446744073709551616 + 2 * v := by rw [IntKind.wrap_u64, IntKind.wrap_u64]; omega
  rw [e1, e2, u64_xor _ _ (by omega) (by omega) (by omega) (by omega), show (18446744073709551615 : Int).toNat = 18446744073709551615 from rfl, xor_ones _ (by omega)]
  unfold zz
  rw [if_neg (by omega)]
  omega
theorem zz_any {v : Int} (h1 : -9223372036854775808 ≤ v) (h2 : v ≤ 9223372036854775807) :
    bits .xor .u64 (IntKind.u64.wrap (IntKind.u64.wrap v * 2)) (IntKind.u64.wrap (v / 9223372036854775808)) = ((zz v : Nat) : Int) := by
  by_cases h : 0 ≤ v
  · rw [show IntKind.u64.wrap v = v by rw [IntKind.wrap_u64]; omega, show IntKind.u64.wrap (v * 2) = v * 2 by rw [IntKind.wrap_u64]; omega, show IntKind.u64.wrap (v / 9223372036854775808) = v / 9223372036854775808 by rw [IntKind.wrap_u64]; omega]
    exact zz_pos h h2
  · exact zz_neg (by omega) h1

theorem and127 (c : Nat) (hc : c < 256) : bits .and .u8 (c : Int) 127 = ((c % 128 : Nat) : Int) := by
  rw [u8_and _ _ (by omega) (by omega) (by omega) (by omega), Int.toNat_natCast, show (127 : Int).toNat = 127 from rfl, nat_mask7]
theorem and128 (c : Nat) (hc : c < 256) : (bits .and .u8 (c : Int) 128 != 0) = decide (128 ≤ c) := by
  rw [u8_and _ _ (by omega) (by omega) (by omega) (by omega), Int.toNat_natCast, show (128 : Int).toNat = 2 ^ 7 from rfl, nat_bit]
  by_cases h : 128 ≤ c
  · rw [decide_eq_true h, bne_iff_ne]
    have : c / 2 ^ 7 % 2 = 1 := by omega
    rw [this]; decide
  · rw [decide_eq_false h]
    have : c / 2 ^ 7 % 2 = 0 := by omega
    rw [this]; decide

theorem two7 (i : Nat) : (2 : Nat) ^ (7 * i) = 128 ^ i := by rw [Nat.pow_mul]
theorem acc_or (i acc x : Nat) (ha : acc < 128 ^ i) (hx : acc + 128 ^ i * x < 18446744073709551616) : bits .or .u64 (acc : Int) ((128 ^ i * x : Nat) : Int) = ((acc + 128 ^ i * x : Nat) : Int) := by
  rw [u64_or_nat _ _ (by omega) (by omega), Nat.or_comm, nat_join (7 * i) (128 ^ i * x) acc (by rw [two7]; exact Nat.mul_mod_right _ _) (by rw [two7]; exact ha)]
  congr 1
  omega
theorem acc_step (i acc c : Nat) (hi : i ≤ 8) (ha : acc < 128 ^ i) (hc : c < 256) :
    bits .or .u64 (acc : Int) (IntKind.u64.wrap (IntKind.u64.wrap (bits .and .u8 (c : Int) 127) * 2 ^ (7 * i))) = ((acc + 128 ^ i * (c % 128) : Nat) : Int) := by
  have hp : 128 ^ i ≤ 128 ^ 8 := Nat.pow_le_pow_right (by omega) hi
  have hm : 128 ^ i * (c % 128) ≤ 128 ^ 8 * 127 := Nat.mul_le_mul hp (by omega)
  have e0 : (2 : Int) ^ (7 * i) = ((128 ^ i : Nat) : Int) := by rw [← two7]; norm_cast
  have e1 : IntKind.u64.wrap ((c % 128 : Nat) : Int) = ((c % 128 : Nat) : Int) := by rw [IntKind.wrap_u64]; omega
  have e2 : ((c % 128 : Nat) : Int) * ((128 ^ i : Nat) : Int) = ((128 ^ i * (c % 128) : Nat) : Int) := by rw [← Int.natCast_mul, Nat.mul_comm]
  have e3 : IntKind.u64.wrap ((128 ^ i * (c % 128) : Nat) : Int) = ((128 ^ i * (c % 128) : Nat) : Int) := by rw [IntKind.wrap_u64]; omega
  rw [and127 c hc, e1, e0, e2, e3]
  exact acc_or i acc (c % 128) ha (by omega)
theorem acc_nine (acc : Nat) (ha : acc < 128 ^ 9) :
    bits .or .u64 (acc : Int) (IntKind.u64.wrap (IntKind.u64.wrap (bits .and .u8 1 127) * 9223372036854775808)) = ((acc + 128 ^ 9 * 1 : Nat) : Int) := by
  have e1 : IntKind.u64.wrap (IntKind.u64.wrap (bits .and .u8 1 127) * 9223372036854775808) = ((128 ^ 9 * 1 : Nat) : Int) := by decide
  rw [e1]
  exact acc_or 9 acc 1 ha (by omega)
theorem acc_zero : bits .or .u64 0 (IntKind.u64.wrap (IntKind.u64.wrap (bits .and .u8 0 127))) = 0 := by decide

theorem xor_i64_ones (a : Nat) (h : a < 9223372036854775808) : bits .xor .i64 (a : Int) (-1) = -(a : Int) - 1 := by
  show IntKind.i64.wrap ((BitVec.ofInt 64 (a : Int) ^^^ BitVec.ofInt 64 (-1)).toNat : Int) = _
  rw [show BitVec.ofInt 64 (-1) = BitVec.allOnes 64 from by decide, BitVec.xor_allOnes, BitVec.toNat_not, BitVec.ofInt_natCast, BitVec.toNat_ofNat, Nat.mod_eq_of_lt (show a < 2 ^ 64 by omega), IntKind.wrap_i64]
  omega
theorem xor_i64_zero (a : Nat) (h : a < 9223372036854775808) : bits .xor .i64 (a : Int) 0 = (a : Int) := by
  show IntKind.i64.wrap ((BitVec.ofInt 64 (a : Int) ^^^ BitVec.ofInt 64 0).toNat : Int) = _
  rw [show BitVec.ofInt 64 0 = 0#64 from by decide, BitVec.xor_zero, BitVec.ofInt_natCast, BitVec.toNat_ofNat, Nat.mod_eq_of_lt (show a < 2 ^ 64 by omega), IntKind.wrap_i64]
  omega
theorem w64 {x : Int} (h1 : -9223372036854775808 ≤ x) (h2 : x ≤ 9223372036854775807) : wrap64 x = x := by unfold wrap64; omega
theorem uz_bits (n : Nat) (h : n < 18446744073709551616) : bits .xor .i64 (wrap64 ((n : Int) / 2)) (wrap64 (-wrap64 (bits .and .u64 (n : Int) 1))) = uz n := by
  have e0 : bits .and .u64 (n : Int) 1 = ((n % 2 : Nat) : Int) := by
    rw [u64_and _ _ (by omega) (by omega) (by omega) (by omega), Int.toNat_natCast, show (1 : Int).toNat = 1 from rfl, nat_mask1]
  have e1 : (n : Int) / 2 = ((n / 2 : Nat) : Int) := by omega
  rw [e0, e1, w64 (x := ((n / 2 : Nat) : Int)) (by omega) (by omega), w64 (x := ((n % 2 : Nat) : Int)) (by omega) (by omega), w64 (by omega) (by omega)]
  unfold uz
  by_cases hp : n % 2 = 0
  · rw [if_pos hp, hp]
    exact xor_i64_zero _ (by omega)
  · rw [if_neg hp, show n % 2 = 1 by omega]
    exact xor_i64_ones _ (by omega)
end Go.Proofs.Ytjhciobkofnjfaa
