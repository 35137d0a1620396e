/- Long division by two digits: the plain law of math/bits.Div64. No program in sight. -/
import Derived.WalkKit
import Derived.Lib.BitFns
import Derived.Lib.ItoaNum
import Derived.Laws.BitsAllLaws
namespace Go.Proofs.Ytjhciobkofnjfaa
namespace DM

theorem exit_ {un yn1 yn0 d q r : Nat} (hp : 0 < yn1 * 4294967296 + yn0) (hinv : q * yn1 + r = un) (hge : (un * 4294967296 + d) / (yn1 * 4294967296 + yn0) ≤ q) (hle : q * yn0 ≤ 4294967296 * r + d) :
    q = (un * 4294967296 + d) / (yn1 * 4294967296 + yn0) := by
  refine Nat.le_antisymm ?_ hge
  rw [Nat.le_div_iff_mul_le hp]
  have h1 : q * (yn1 * 4294967296 + yn0) = (q * yn1) * 4294967296 + q * yn0 := by rw [Nat.mul_add, Nat.mul_assoc]
  rw [h1]
  omega
theorem step_ {un yn1 yn0 d q r : Nat} (hp : un < yn1 * 4294967296 + yn0) (hd : d < 4294967296) (hinv : q * yn1 + r = un) (h : 4294967296 ≤ q ∨ 4294967296 * r + d < q * yn0) (hge : (un * 4294967296 + d) / (yn1 * 4294967296 + yn0) ≤ q) :
    1 ≤ q ∧ (un * 4294967296 + d) / (yn1 * 4294967296 + yn0) ≤ q - 1 ∧ (q - 1) * yn1 + (r + yn1) = un := by
  have hY : 0 < yn1 * 4294967296 + yn0 := by omega
  have hlt : (un * 4294967296 + d) / (yn1 * 4294967296 + yn0) < q := by
    rcases h with h | h
    · have : (un * 4294967296 + d) / (yn1 * 4294967296 + yn0) < 4294967296 := by
        rw [Nat.div_lt_iff_lt_mul hY]
        omega
      omega
    · rw [Nat.div_lt_iff_lt_mul hY]
      have h1 : q * (yn1 * 4294967296 + yn0) = (q * yn1) * 4294967296 + q * yn0 := by rw [Nat.mul_add, Nat.mul_assoc]
      rw [h1]
      omega
  have h1 : 1 ≤ q := Nat.lt_of_le_of_lt (Nat.zero_le _) hlt
  refine ⟨h1, Nat.le_sub_one_of_lt hlt, ?_⟩
  obtain ⟨k, rfl⟩ : ∃ k, q = k + 1 := ⟨q - 1, by omega⟩
  rw [Nat.add_sub_cancel]
  rw [Nat.add_mul] at hinv
  omega
theorem break_ {yn0 d q r : Nat} (h0 : yn0 < 4294967296) (hq : q ≤ 4294967296) (hr : 4294967296 ≤ r) : q * yn0 ≤ 4294967296 * r + d := by
  have := Nat.mul_le_mul hq (Nat.le_of_lt h0)
  omega
theorem init_ {un yn1 yn0 d : Nat} (hp : un < yn1 * 4294967296 + yn0) (hd : d < 4294967296) (h0 : yn0 < 4294967296) (h1 : 2147483648 ≤ yn1) :
    un / yn1 * yn1 + un % yn1 = un ∧ (un * 4294967296 + d) / (yn1 * 4294967296 + yn0) ≤ un / yn1 ∧ un / yn1 ≤ 4294967297 := by
  have hy : 0 < yn1 := by omega
  refine ⟨by rw [Nat.mul_comm]; exact Nat.div_add_mod un yn1, ?_, ?_⟩
  · rw [Nat.le_div_iff_mul_le hy]
    have h2 := Nat.div_mul_le_self (un * 4294967296 + d) (yn1 * 4294967296 + yn0)
    generalize (un * 4294967296 + d) / (yn1 * 4294967296 + yn0) = Q at h2 ⊢
    rw [Nat.mul_add, ← Nat.mul_assoc] at h2
    omega
  · have : un / yn1 < 4294967298 := by
      rw [Nat.div_lt_iff_lt_mul hy]
      omega
    omega
theorem rem_ (N Y : Nat) : N - N / Y * Y = N % Y := by
  have := Nat.div_add_mod N Y
  rw [Nat.mul_comm] at this
  omega
/-- Two digits of the quotient. -/
theorem two_digits (b N Y u : Nat) (hY : 0 < Y) : N / Y * b + (N % Y * b + u) / Y = (N * b + u) / Y := by
  have h := Nat.div_add_mod N Y
  have e : N * b + u = (N % Y * b + u) + (N / Y * b) * Y := by
    have h2 : N * b = (Y * (N / Y)) * b + (N % Y) * b := by rw [← Nat.add_mul, h]
    have h3 : (N / Y * b) * Y = (Y * (N / Y)) * b := by rw [Nat.mul_right_comm, Nat.mul_comm (N / Y) Y]
    omega
  rw [e, Nat.add_mul_div_right _ _ hY]
  exact Nat.add_comm _ _
theorem both_ {Y un32 un1 un0 : Nat} (hY : 0 < Y) :
    (un32 * 4294967296 + un1) / Y * 4294967296 + ((un32 * 4294967296 + un1) % Y * 4294967296 + un0) / Y = ((un32 * 4294967296 + un1) * 4294967296 + un0) / Y := two_digits _ _ _ _ hY
theorem bitLen_is {y : Nat} (h0 : y ≠ 0) (h : y < 18446744073709551616) : ∃ s, s ≤ 63 ∧ Lib.bitLen y + s = 64 ∧ 9223372036854775808 ≤ y * 2 ^ s ∧ y * 2 ^ s < 18446744073709551616 := by
  obtain ⟨h1, h2, h3⟩ := Lib.bitLenAux_bounds 64 y h h0
  change 1 ≤ Lib.bitLen y at h1
  change 2 ^ (Lib.bitLen y - 1) ≤ y at h2
  change y < 2 ^ Lib.bitLen y at h3
  have hle : Lib.bitLen y ≤ 64 := by
    rcases Nat.lt_or_ge 64 (Lib.bitLen y) with hc | hc
    · exfalso
      have : 2 ^ 64 ≤ 2 ^ (Lib.bitLen y - 1) := Nat.pow_le_pow_right (by omega) (by omega)
      omega
    · exact hc
  refine ⟨64 - Lib.bitLen y, by omega, by omega, ?_, ?_⟩
  · have := Nat.mul_le_mul_right (2 ^ (64 - Lib.bitLen y)) h2
    rw [← Nat.pow_add, show Lib.bitLen y - 1 + (64 - Lib.bitLen y) = 63 by omega] at this
    exact this
  · have := Nat.mul_lt_mul_of_pos_right h3 (show 0 < 2 ^ (64 - Lib.bitLen y) from Nat.pos_of_ne_zero (by simp))
    rw [← Nat.pow_add, show Lib.bitLen y + (64 - Lib.bitLen y) = 64 by omega] at this
    exact this
theorem shift_gen {M hi lo y s t p q : Nat} (hp : p = 2 ^ s) (hq : q = 2 ^ t) (h1 : hi < y) (hM : M = q * p) (hlo : lo < M) (hy : y * p < M) :
    hi * p < M ∧ lo / q < p ∧ (hi * p + lo / q) * M + lo * p % M = (hi * M + lo) * p ∧ hi * p + lo / q < y * p := by
  have hp0 : 0 < p := by rw [hp]; exact Nat.pos_of_ne_zero (by simp)
  have hq0 : 0 < q := by rw [hq]; exact Nat.pos_of_ne_zero (by simp)
  have hdiv : lo * p / M = lo / q := by rw [hM, Nat.mul_div_mul_right _ _ hp0]
  have hl : lo / q < p := by
    rw [Nat.div_lt_iff_lt_mul hq0, Nat.mul_comm, ← hM]
    exact hlo
  have hh : (hi + 1) * p ≤ y * p := Nat.mul_le_mul_right _ h1
  rw [Nat.add_mul, Nat.one_mul] at hh
  refine ⟨by omega, hl, ?_, by omega⟩
  have hm := Nat.div_add_mod (lo * p) M
  rw [hdiv] at hm
  rw [Nat.add_mul, Nat.add_mul]
  have e : hi * p * M = hi * M * p := Nat.mul_right_comm _ _ _
  have e2 : lo / q * M = M * (lo / q) := Nat.mul_comm _ _
  omega
/-- What is shifted out of the lower half is shifted into the upper one. -/
theorem shift_ {hi lo y s : Nat} (h1 : hi < y) (hs : s ≤ 64) (hlo : lo < 18446744073709551616) (hy : y * 2 ^ s < 18446744073709551616) :
    hi * 2 ^ s < 18446744073709551616 ∧ lo / 2 ^ (64 - s) < 2 ^ s ∧ (hi * 2 ^ s + lo / 2 ^ (64 - s)) * 18446744073709551616 + lo * 2 ^ s % 18446744073709551616 = (hi * 18446744073709551616 + lo) * 2 ^ s ∧ hi * 2 ^ s + lo / 2 ^ (64 - s) < y * 2 ^ s :=
  shift_gen (t := 64 - s) rfl rfl h1 (by rw [← Nat.pow_add, show 64 - s + s = 64 by omega]) hlo hy

theorem split32 (Y : Nat) : ∃ a b : Nat, Y = a * 4294967296 + b ∧ b < 4294967296 := ⟨Y / 4294967296, Y % 4294967296, by omega, by omega⟩
theorem div32 {Y a b : Nat} (h : Y = a * 4294967296 + b) (hb : b < 4294967296) : (Y : Int) / 4294967296 = (a : Int) := by omega
theorem and32 {Y a b : Nat} (h : Y = a * 4294967296 + b) (hb : b < 4294967296) (hY : Y < 18446744073709551616) : bits .and .u64 (Y : Int) 4294967295 = (b : Int) := by
  rw [u64_and _ _ (by omega) (by omega) (by omega) (by omega), Int.toNat_natCast, show (4294967295 : Int).toNat = 2 ^ 32 - 1 from rfl, Nat.and_two_pow_sub_one_eq_mod]
  have : Y % 2 ^ 32 = b := by omega
  rw [this]
theorem wrap_shl {y s Y : Nat} (h : Y = y * 2 ^ s % 18446744073709551616) : IntKind.u64.wrap ((y : Int) * 2 ^ s) = (Y : Int) := by
  have e : ((y : Int) * 2 ^ s) = ((y * 2 ^ s : Nat) : Int) := by push_cast; rfl
  rw [e, IntKind.wrap_u64, h]
  generalize y * 2 ^ s = z
  omega
theorem shr_ {lo t l1 : Nat} (h : l1 = lo / 2 ^ t) : (lo : Int) / 2 ^ t = (l1 : Int) := by rw [h]; push_cast; rfl
theorem or_ {hh l1 s un : Nat} (h1 : hh < 18446744073709551616) (h2 : l1 < 2 ^ s) (h3 : hh % 2 ^ s = 0) (h4 : un = hh + l1) (h5 : l1 < 18446744073709551616) : bits .or .u64 (hh : Int) (l1 : Int) = (un : Int) := by
  rw [u64_or_nat _ _ h1 h5, nat_join s hh l1 h3 h2, h4]
/-- All that is reckoned ahead of the first loop. -/
theorem setup {hi lo y s : Nat} (h1 : hi < y) (hs : s ≤ 63) (hlo : lo < 18446744073709551616) (hn1 : 9223372036854775808 ≤ y * 2 ^ s) (hn2 : y * 2 ^ s < 18446744073709551616) :
    ∃ Y yn1 yn0 l1 hh un32 un10 un1 un0 : Nat, Y = y * 2 ^ s ∧ hh = hi * 2 ^ s ∧ l1 = lo / 2 ^ (64 - s) ∧ un10 = lo * 2 ^ s % 18446744073709551616 ∧ un32 = hh + l1 ∧ Y = yn1 * 4294967296 + yn0 ∧ un10 = un1 * 4294967296 + un0 ∧
      2147483648 ≤ yn1 ∧ yn1 < 4294967296 ∧ yn0 < 4294967296 ∧ un1 < 4294967296 ∧ un0 < 4294967296 ∧ hh < 18446744073709551616 ∧ l1 < 2 ^ s ∧ l1 < 18446744073709551616 ∧ un32 < yn1 * 4294967296 + yn0 ∧
      (un32 * 4294967296 + un1) * 4294967296 + un0 = (hi * 18446744073709551616 + lo) * 2 ^ s ∧ Y < 18446744073709551616 ∧ un10 < 18446744073709551616 := by
  obtain ⟨sh1, sh2, sh3, sh4⟩ := shift_ h1 (show s ≤ 64 by omega) hlo hn2
  generalize hY : y * 2 ^ s = Y at hn1 hn2 sh4
  generalize hh_ : hi * 2 ^ s = hh at sh1 sh3 sh4
  have hl2 : lo / 2 ^ (64 - s) ≤ lo := Nat.div_le_self _ _
  generalize hl : lo / 2 ^ (64 - s) = l1 at sh2 sh3 sh4 hl2
  have h10 : lo * 2 ^ s % 18446744073709551616 < 18446744073709551616 := Nat.mod_lt _ (by omega)
  generalize hu : lo * 2 ^ s % 18446744073709551616 = un10 at sh3 h10
  obtain ⟨yn1, yn0, e1, b1⟩ := split32 Y
  obtain ⟨un1, un0, e2, b2⟩ := split32 un10
  generalize hr : (hi * 18446744073709551616 + lo) * 2 ^ s = R at sh3
  clear hY hh_ hl hu hr
  refine ⟨Y, yn1, yn0, l1, hh, hh + l1, un10, un1, un0, rfl, rfl, rfl, rfl, rfl, e1, e2, ?_, ?_, b1, ?_, b2, sh1, sh2, ?_, ?_, ?_, hn2, h10⟩
  · clear sh3 sh2 sh4; omega
  · clear sh3 sh2 sh4; omega
  · clear sh3 sh2 sh4; omega
  · clear sh3 sh2 sh4; omega
  · clear sh3 sh2; omega
  · rw [← sh3, e2]
    generalize hh + l1 = v
    clear sh3 sh2 sh4 e1 e2
    omega
/-- The reckoning between the loops: what is left. -/
theorem left_ {un32 un1 Y Q a1 a2 a3 r : Nat} (hQ : Q = (un32 * 4294967296 + un1) / Y) (hY : 0 < Y) (hYb : Y < 18446744073709551616)
    (h1 : (a1 : Int) = (un32 : Int) * 4294967296 % 18446744073709551616) (h2 : (a2 : Int) = ((a1 : Int) + un1) % 18446744073709551616) (h3 : (a3 : Int) = ((Q : Int) * Y) % 18446744073709551616) (h4 : (r : Int) = ((a2 : Int) - a3) % 18446744073709551616) :
    r = (un32 * 4294967296 + un1) % Y := by
  have hm := Nat.mod_lt (un32 * 4294967296 + un1) hY
  rw [← rem_, ← hQ] at hm ⊢
  have hle : Q * Y ≤ un32 * 4294967296 + un1 := by rw [hQ]; exact Nat.div_mul_le_self _ _
  rw [← Int.natCast_mul] at h3
  generalize Q * Y = z at h3 hm hle ⊢
  clear hQ
  omega
theorem quo_ {un yn1 q : Nat} (hu : un < 18446744073709551616) (h : (q : Int) = (un : Int).tdiv (yn1 : Int) % 18446744073709551616) : q = un / yn1 := by
  rw [Int.tdiv_eq_ediv_of_nonneg (by omega), ← Int.natCast_ediv] at h
  have h2 : un / yn1 ≤ un := Nat.div_le_self _ _
  generalize un / yn1 = z at h h2 ⊢
  omega
theorem rhat_ {un yn1 q P r : Nat} (hu : un < 18446744073709551616) (hq : q = un / yn1) (h1 : (P : Int) = ((q : Int) * yn1) % 18446744073709551616) (h2 : (r : Int) = ((un : Int) - P) % 18446744073709551616) : r = un % yn1 := by
  have h3 : q * yn1 ≤ un := by rw [hq]; exact Nat.div_mul_le_self _ _
  have h4 : un % yn1 = un - q * yn1 := by rw [hq, rem_]
  rw [h4]
  rw [← Int.natCast_mul] at h1
  generalize q * yn1 = z at h1 h3 ⊢
  clear hq h4
  omega
theorem qbound {un yn1 yn0 d : Nat} (hp : un < yn1 * 4294967296 + yn0) (hd : d < 4294967296) : (un * 4294967296 + d) / (yn1 * 4294967296 + yn0) < 4294967296 := by
  rw [Nat.div_lt_iff_lt_mul (by omega)]
  omega
theorem prod_ {q yn0 P : Nat} (hq : q ≤ 4294967297) (h0 : yn0 < 4294967296) (h : (P : Int) = ((q : Int) * yn0) % 18446744073709551616) : P = q * yn0 := by
  have h3 := Nat.mul_le_mul hq (show yn0 ≤ 4294967295 by omega)
  rw [← Int.natCast_mul] at h
  generalize q * yn0 = z at h h3 ⊢
  omega
theorem result_ {hi lo y s Y un32 un1 un0 Q1 Q0 u21 : Nat} (hy : 0 < y) (hY : Y = y * 2 ^ s) (hU : (un32 * 4294967296 + un1) * 4294967296 + un0 = (hi * 18446744073709551616 + lo) * 2 ^ s) (h1 : Q1 = (un32 * 4294967296 + un1) / Y) (h2 : u21 = (un32 * 4294967296 + un1) % Y) (h3 : Q0 = (u21 * 4294967296 + un0) / Y) :
    Q1 * 4294967296 + Q0 = (hi * 18446744073709551616 + lo) / y := by
  have hp : 0 < 2 ^ s := Nat.pos_of_ne_zero (by simp)
  have hYp : 0 < Y := by rw [hY]; exact Nat.mul_pos hy hp
  rw [h3, h2, h1, both_ hYp, hU, hY, Nat.mul_div_mul_right _ _ hp]
end DM
end Go.Proofs.Ytjhciobkofnjfaa
