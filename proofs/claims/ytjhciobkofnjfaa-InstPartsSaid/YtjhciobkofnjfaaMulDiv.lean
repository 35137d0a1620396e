/- money.MulDiv and Share. -/
import Derived.Test.YtjhciobkofnjfaaDiv
namespace Go.Proofs.Ytjhciobkofnjfaa
open Go.RowKit

/-- A product divided by a number, rounded down, if it is no more than the most. -/
def mulDivP (a b c : Nat) : Int × Int := if 1152921504606846976 < a * b / c then (0, 12) else (((a * b / c : Nat) : Int), 0)

set_option maxHeartbeats 800000 in
set_option maxRecDepth 100000 in
theorem muldiv_nat (a b c : Nat) (w : World) (ha : a ≤ 9223372036854775807) (hb : b ≤ 9223372036854775807) (hc : c ≤ 9223372036854775807) (hc0 : 1 ≤ c) :
    Calls Try.prog 68 #[.int .i64 a, .int .i64 b, .int .i64 c] w fun r w' => r = .returned (.tuple #[.int .i64 (mulDivP a b c).1, .int .i64 (mulDivP a b c).2]) ∧ ∃ k, w' = w.drewN k := by
  have d1 : decide ((c : Int) < 1) = false := by rw [decide_eq_false_iff_not]; omega
  go_enter Try.func68, Try.ntmps68
  go_wp2_with fail
  refine (Try.bits_Mul64 a b (by omega) (by omega) w).mono ?_
  rintro r w' ⟨rfl, hw'⟩
  rw [hw']
  clear hw' w'
  have hdm := Nat.div_add_mod (a * b) 18446744073709551616
  have hml := Nat.mod_lt (a * b) (show 18446744073709551616 > 0 by omega)
  generalize a * b / 18446744073709551616 = hi at hdm ⊢
  generalize a * b % 18446744073709551616 = lo at hdm hml ⊢
  have hp : hi * 18446744073709551616 + lo = a * b := by rw [← hdm, Nat.mul_comm]
  have HP := hide hp
  have HML := hide hml
  clear hdm hml hp
  by_cases hov : c ≤ hi
  · have d2 : decide (c ≤ hi) = true := by rw [decide_eq_true_iff]; exact hov
    have hbig : 1152921504606846976 < a * b / c := by
      rw [Nat.lt_iff_add_one_le, Nat.le_div_iff_mul_le (by omega), ← HP.out]
      have := Nat.mul_le_mul_right 18446744073709551616 hov
      omega
    have HBIG := hide hbig
    clear hbig
    go_wp2_with fail
    go_ret2
    refine ⟨?_, 0, rfl⟩
    rw [mulDivP, if_pos HBIG.out]
    rfl
  · have d2 : decide (c ≤ hi) = false := by rw [decide_eq_false_iff_not]; exact hov
    go_wp2_with fail
    refine (div64_any hi lo c w (by omega) (show c < 18446744073709551616 by omega) HML).mono ?_
    rintro r w' ⟨⟨rem, rfl⟩, k, hw'⟩
    rw [hw', HP.out]
    clear hw' w'
    obtain ⟨q, hq⟩ : ∃ q, q = a * b / c := ⟨_, rfl⟩
    rw [← hq]
    have HQ := hide hq
    clear hq
    by_cases hm : 1152921504606846976 < q
    · have d3 : decide ((1152921504606846976 : Int) < (q : Int)) = true := by rw [decide_eq_true_iff]; omega
      have HM := hide hm
      clear hm
      go_wp2_with fail
      go_ret2
      refine ⟨?_, k, rfl⟩
      rw [mulDivP, ← HQ.out, if_pos HM.out]
      rfl
    · have d3 : decide ((1152921504606846976 : Int) < (q : Int)) = false := by rw [decide_eq_false_iff_not]; omega
      have HM := hide hm
      go_wp2_with fail
      go_ret2
      refine ⟨?_, k, rfl⟩
      rw [mulDivP, ← HQ.out, if_neg HM.out]
      rfl

theorem muldiv_arg (a b c : Int) (w : World) (h : a < 0 ∨ b < 0 ∨ c < 1) :
    Calls Try.prog 68 #[.int .i64 a, .int .i64 b, .int .i64 c] w fun r w' => r = .returned (.tuple #[.int .i64 0, .int .i64 1]) ∧ w = w' := by
  go_enter Try.func68, Try.ntmps68
  by_cases h1 : a < 0
  · have d1 : decide (a < 0) = true := by rw [decide_eq_true_iff]; exact h1
    go_wp2_with fail
    go_ret2
    exact ⟨rfl, rfl⟩
  have d1 : decide (a < 0) = false := by rw [decide_eq_false_iff_not]; exact h1
  by_cases h2 : b < 0
  · have d2 : decide (b < 0) = true := by rw [decide_eq_true_iff]; exact h2
    go_wp2_with fail
    go_ret2
    exact ⟨rfl, rfl⟩
  have d2 : decide (b < 0) = false := by rw [decide_eq_false_iff_not]; exact h2
  have h3 : c < 1 := by omega
  have d3 : decide (c < 1) = true := by rw [decide_eq_true_iff]; exact h3
  clear h
  go_wp2_with fail
  go_ret2
  exact ⟨rfl, rfl⟩

def shareP (a d o : Int) : Int × Int := if d < 0 ∨ o < d ∨ a < 0 ∨ o < 1 then (0, 1) else mulDivP a.toNat d.toNat o.toNat

set_option maxRecDepth 100000 in
theorem share_any (a d o : Int) (w : World) (ha : a ≤ 9223372036854775807) (hd : d ≤ 9223372036854775807) (ho : o ≤ 9223372036854775807) :
    Calls Try.prog 61 #[.int .i64 a, .int .i64 d, .int .i64 o] w fun r w' => r = .returned (.tuple #[.int .i64 (shareP a d o).1, .int .i64 (shareP a d o).2]) ∧ ∃ k, w' = w.drewN k := by
  go_enter Try.func61, Try.ntmps61
  by_cases h1 : d < 0
  · have d1 : decide (d < 0) = true := by rw [decide_eq_true_iff]; exact h1
    go_wp2_with fail
    go_ret2
    rw [shareP, if_pos (.inl h1)]
    exact ⟨rfl, 0, rfl⟩
  have d1 : decide (d < 0) = false := by rw [decide_eq_false_iff_not]; exact h1
  by_cases h2 : o < d
  · have d2 : decide (o < d) = true := by rw [decide_eq_true_iff]; exact h2
    go_wp2_with fail
    go_ret2
    rw [shareP, if_pos (.inr (.inl h2))]
    exact ⟨rfl, 0, rfl⟩
  have d2 : decide (o < d) = false := by rw [decide_eq_false_iff_not]; exact h2
  by_cases h3 : a < 0 ∨ o < 1
  · go_wp2_with fail
    refine (muldiv_arg a d o w (h3.elim .inl (fun h => .inr (.inr h)))).mono ?_
    rintro r w' ⟨rfl, rfl⟩
    go_wp2_with fail
    go_ret2
    rw [shareP, if_pos (.inr (.inr h3))]
    exact ⟨rfl, 0, rfl⟩
  · have hN : ¬ (d < 0 ∨ o < d ∨ a < 0 ∨ o < 1) := by omega
    have C := muldiv_nat a.toNat d.toNat o.toNat w (by omega) (by omega) (by omega) (by omega)
    rw [show ((a.toNat : Nat) : Int) = a by omega, show ((d.toNat : Nat) : Int) = d by omega, show ((o.toNat : Nat) : Int) = o by omega] at C
    have HC := hide C
    have HN := hide hN
    clear C hN h3
    go_wp2_with fail
    refine HC.out.mono ?_
    rintro r w' ⟨rfl, k, rfl⟩
    have e : shareP a d o = mulDivP a.toNat d.toNat o.toNat := by rw [shareP, if_neg HN.out]
    rw [← e]
    clear e
    go_wp2_with fail
    go_ret2
    exact ⟨rfl, k, rfl⟩
end Go.Proofs.Ytjhciobkofnjfaa
