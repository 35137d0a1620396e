/- math/bits.Div64: 128 bits by 64. -/
import Derived.Test.YtjhciobkofnjfaaMem
import Derived.Test.YtjhciobkofnjfaaShelf
import Derived.Test.YtjhciobkofnjfaaDivMath
import Derived.Deep.LoopGhost
import Derived.Deep.CutBlock
import Derived.Deep.DeepCutAuto
import Derived.Deep.QuietTactic
namespace Go.Proofs.Ytjhciobkofnjfaa
open Go.RowKit

theorem wrapN (z : Int) : ∃ n : Nat, IntKind.u64.wrap z = (n : Int) ∧ Hid ((n : Int) = z % 18446744073709551616) :=
  ⟨(z % 18446744073709551616).toNat, by rw [IntKind.wrap_u64]; omega, by unfold Hid; omega⟩
def DRel (un yn1 yn0 d : Nat) (w : World) (left : Nat) (s5 s6 : Value) (wx : World) : Prop :=
  ∃ q r : Nat, s5 = .int .u64 (q : Int) ∧ s6 = .int .u64 (r : Int) ∧ q ≤ left ∧ q * yn1 + r = un ∧ (un * 4294967296 + d) / (yn1 * 4294967296 + yn0) ≤ q ∧ q ≤ 4294967297 ∧ r < 4294967296 ∧ wx = w

set_option maxHeartbeats 1600000 in
set_option maxRecDepth 100000 in
theorem div64_any (hi lo y : Nat) (w : World) (h1 : hi < y) (h2 : Hid (y < 18446744073709551616)) (h3 : Hid (lo < 18446744073709551616)) :
    Calls Try.prog 73 #[.int .u64 hi, .int .u64 lo, .int .u64 y] w fun r w' => (∃ rem, r = .returned (.tuple #[.int .u64 (((hi * 18446744073709551616 + lo) / y : Nat) : Int), .int .u64 rem])) ∧ ∃ k, w' = w.drewN k := by
  have d1 : ((y : Int) == 0) = false := by rw [beq_eq_false_iff_ne]; omega
  have d2 : decide (y ≤ hi) = false := by rw [decide_eq_false_iff_not]; omega
  go_enter Try.func73, Try.ntmps73
  by_cases h0 : hi = 0
  · subst h0
    go_wp2_with fail
    have e : IntKind.u64.wrap ((lo : Int) / (y : Int)) = (((0 * 18446744073709551616 + lo) / y : Nat) : Int) := by
      have h4 := h3.out
      have h5 : lo / y ≤ lo := Nat.div_le_self _ _
      rw [← Int.natCast_ediv, Nat.zero_mul, Nat.zero_add, IntKind.wrap_u64]
      generalize lo / y = z at h5 ⊢
      omega
    go_quiet (fail)
    clear e
    have e2 : (((0 * 18446744073709551616 + lo) / y : Nat) : Int) = (lo : Int) / (y : Int) := by rw [Nat.zero_mul, Nat.zero_add, Int.natCast_ediv]
    have HE2 := hide e2
    clear e2
    go_wp2_with fail
    go_ret2
    exact ⟨⟨_, by rw [HE2.out]; rfl⟩, nq, rfl⟩
  · have d3 : ((hi : Int) == 0) = false := by rw [beq_eq_false_iff_ne]; omega
    go_wp2_with fail
    refine (Try.bits_LeadingZeros64 y w (by omega) (by have := h2.out; omega)).mono ?_
    rintro r w' ⟨rfl, hw'⟩
    rw [hw']
    clear hw'
    obtain ⟨s, hs63, hbl, hn1, hn2⟩ := DM.bitLen_is (show y ≠ 0 by omega) h2.out
    rw [show (y : Int).toNat = y by omega, show (64 : Int) - ((Lib.bitLen y : Nat) : Int) = (s : Int) by clear hn1 hn2; omega]
    obtain ⟨Y, yn1, yn0, l1, hh, un32, un10, un1, un0, a1, a2, a3, a4, a5, a6, a7, hyn1, hyn1b, hyn0, hun1, hun0, a8, a9, a10, a11, a12, a13, a14⟩ := DM.setup h1 hs63 h3.out hn1 hn2
    have E1 : IntKind.u64.wrap ((y : Int) * 2 ^ s) = (Y : Int) := DM.wrap_shl (by rw [← a1, Nat.mod_eq_of_lt a13])
    have E2 : (Y : Int) / 4294967296 = (yn1 : Int) := DM.div32 a6 hyn0
    have E3 : bits .and .u64 (Y : Int) 4294967295 = (yn0 : Int) := DM.and32 a6 hyn0 a13
    have E4a : (lo : Int) / 2 ^ (64 - s) = (l1 : Int) := DM.shr_ a3
    have E4b : IntKind.u64.wrap ((hi : Int) * 2 ^ s) = (hh : Int) := DM.wrap_shl (by rw [← a2, Nat.mod_eq_of_lt a8])
    have E4 : bits .or .u64 (hh : Int) (l1 : Int) = (un32 : Int) := DM.or_ a8 a9 (by rw [a2]; exact Nat.mul_mod_left _ _) a5 a10
    have E5 : IntKind.u64.wrap ((lo : Int) * 2 ^ s) = (un10 : Int) := DM.wrap_shl a4
    have E6 : (un10 : Int) / 4294967296 = (un1 : Int) := DM.div32 a7 hun0
    have E7 : bits .and .u64 (un10 : Int) 4294967295 = (un0 : Int) := DM.and32 a7 hun0 a14
    have HUN := hide a11
    have HUNB := hide (show un32 < 18446744073709551616 by rw [← a6] at a11; omega)
    have HYE := hide a6
    have HYB := hide a13
    have HU := hide a12
    have HYS := hide a1
    have hny : ¬ yn1 = 0 := by omega
    clear a1 a2 a3 a4 a5 a6 a7 a8 a9 a10 a11 a12 a13 a14 hn1 hn2 hbl
    obtain ⟨q0, E8, HQ0⟩ := wrapN ((un32 : Int).tdiv (yn1 : Int))
    have E8b : IntKind.u64.wrap ((un32 : Int) / (yn1 : Int)) = (q0 : Int) := by rw [← E8, Int.tdiv_eq_ediv_of_nonneg (by omega)]
    have hq0 := DM.quo_ HUNB.out HQ0.out
    obtain ⟨i1, i2, I3⟩ := DM.init_ HUN.out hun1 hyn0 hyn1
    rw [← hq0] at i1 i2 I3
    obtain ⟨P, E9a, HP⟩ := wrapN ((q0 : Int) * (yn1 : Int))
    obtain ⟨r0, E9, HR0⟩ := wrapN ((un32 : Int) - (P : Int))
    have hr0 := DM.rhat_ HUNB.out hq0 HP.out HR0.out
    have I4 : r0 < 4294967296 := by rw [hr0]; have := Nat.mod_lt un32 (show yn1 > 0 by omega); omega
    rw [← hr0] at i1
    have QB := hide (DM.qbound HUN.out hun1)
    have I1 := hide i1
    have I2 := hide i2
    clear i1 i2 hq0 hr0 HQ0 HP HR0
    go_upto_block 0 with fail
    go_cut [15, 16] (fun s5 _ wx => ∃ Q : Nat, s5 = .int .u64 (Q : Int) ∧ Q < 4294967296 ∧ Hid (Q = (un32 * 4294967296 + un1) / (yn1 * 4294967296 + yn0)) ∧ wx = w)
    case first =>
      go_wp2_with fail
      go_loopg [15, 16] q0 (fun left s5 s6 wx => DRel un32 yn1 yn0 un1 w left s5 s6 wx)
      case atStart => exact ⟨q0, r0, rfl, rfl, Nat.le_refl _, I1.out, I2.out, I3, I4, rfl⟩
      case round =>
        clear I1 I2
        obtain ⟨q, r, rfl, rfl, hqg, hinv, hge, hq, hr, hwx⟩ := hrel
        rw [hwx]
        have HINV := hide hinv
        have HGE := hide hge
        clear hinv hge hwx E8 E8b E9a E9
        obtain ⟨P2, F1, HP2⟩ := wrapN ((q : Int) * (yn0 : Int))
        have HP3 := hide (DM.prod_ hq hyn0 HP2.out)
        clear HP2
        by_cases hbig : 4294967296 ≤ q ∨ 4294967296 * r + un1 < q * yn0
        · obtain ⟨s1, s2, s3⟩ := DM.step_ HUN.out hun1 HINV.out hbig HGE.out
          have S2 := hide s2
          have S3 := hide s3
          have HBIG := hide hbig
          clear s2 s3 hbig
          have fin : 4294967296 ≤ r + yn1 → q - 1 = (un32 * 4294967296 + un1) / (yn1 * 4294967296 + yn0) := fun hb => DM.exit_ (by omega) S3.out S2.out (DM.break_ hyn0 (by omega) hb)
          have FIN := hide fin
          clear fin
          have d7 : ¬ 4294967296 ≤ q → decide (4294967296 * (r : Int) + (un1 : Int) < (P2 : Int)) = true := by
            intro hc
            have h2 := HP3.out
            rcases HBIG.out with h3 | h3
            · exact absurd h3 hc
            · rw [← h2] at h3
              rw [decide_eq_true_iff]
              omega
          have D7 := hide d7
          clear d7
          by_cases hbr : 4294967296 ≤ r + yn1
          · have d9 : decide ((4294967296 : Int) ≤ (r : Int) + (yn1 : Int)) = true := by rw [decide_eq_true_iff]; omega
            have hq1 : q - 1 < 4294967296 := by rw [FIN.out hbr]; exact QB.out
            by_cases hqq : 4294967296 ≤ q
            · have d8 : decide ((4294967296 : Int) ≤ (q : Int)) = true := by rw [decide_eq_true_iff]; omega
              go_wp2_with fail
              go_meet
              exact ⟨q - 1, by rw [Int.natCast_sub s1]; rfl, hq1, FIN.out hbr, rfl⟩
            · have d8 : decide ((4294967296 : Int) ≤ (q : Int)) = false := by rw [decide_eq_false_iff_not]; omega
              have d7 := D7.out hqq
              go_wp2_with fail
              go_meet
              exact ⟨q - 1, by rw [Int.natCast_sub s1]; rfl, hq1, FIN.out hbr, rfl⟩
          · have d9 : decide ((4294967296 : Int) ≤ (r : Int) + (yn1 : Int)) = false := by rw [decide_eq_false_iff_not]; omega
            by_cases hqq : 4294967296 ≤ q
            · have d8 : decide ((4294967296 : Int) ≤ (q : Int)) = true := by rw [decide_eq_true_iff]; omega
              go_wp2_with fail
              go_roundg (q - 1)
              case measure => omega
              case rel => exact ⟨q - 1, r + yn1, by rw [Int.natCast_sub s1]; rfl, by rw [Int.natCast_add], Nat.le_refl _, S3.out, S2.out, by omega, by omega, rfl⟩
            · have d8 : decide ((4294967296 : Int) ≤ (q : Int)) = false := by rw [decide_eq_false_iff_not]; omega
              have d7 := D7.out hqq
              go_wp2_with fail
              go_roundg (q - 1)
              case measure => omega
              case rel => exact ⟨q - 1, r + yn1, by rw [Int.natCast_sub s1]; rfl, by rw [Int.natCast_add], Nat.le_refl _, S3.out, S2.out, by omega, by omega, rfl⟩
        · have hqq : ¬ 4294967296 ≤ q := fun h => hbig (.inl h)
          have hle : q * yn0 ≤ 4294967296 * r + un1 := Nat.le_of_not_lt fun h => hbig (.inr h)
          have E := hide (DM.exit_ (show 0 < yn1 * 4294967296 + yn0 by omega) HINV.out HGE.out hle)
          have d8 : decide ((4294967296 : Int) ≤ (q : Int)) = false := by rw [decide_eq_false_iff_not]; omega
          have d7 : decide (4294967296 * (r : Int) + (un1 : Int) < (P2 : Int)) = false := by
            have h2 := HP3.out
            rw [← h2] at hle
            rw [decide_eq_false_iff_not]
            omega
          clear hle hbig
          go_wp2_with fail
          go_meet
          exact ⟨q, rfl, by omega, E.out, rfl⟩
    case rest =>
      obtain ⟨Q1, rfl, hQ1, HQ1, hwc⟩ := hcut
      rw [hwc]
      clear hwc E8 E8b E9a E9 I1 I2 I3 I4 QB
      obtain ⟨b1, G1, K1⟩ := wrapN ((un32 : Int) * 4294967296)
      obtain ⟨b2, G2, K2⟩ := wrapN ((b1 : Int) + (un1 : Int))
      obtain ⟨b3, G3, K3⟩ := wrapN ((Q1 : Int) * (Y : Int))
      obtain ⟨u21, G4, K4⟩ := wrapN ((b2 : Int) - (b3 : Int))
      have hYp : 0 < Y := by rw [HYE.out]; omega
      have hu := DM.left_ (by have := HQ1.out; rw [← HYE.out] at this; exact this) hYp HYB.out K1.out K2.out K3.out K4.out
      have HUR := hide hu
      have HN2 := hide (show u21 < yn1 * 4294967296 + yn0 by rw [← HYE.out, hu]; exact Nat.mod_lt _ hYp)
      have HN2B := hide (show u21 < 18446744073709551616 by have h8 := HN2.out; have h9 := HYB.out; rw [← HYE.out] at h8; exact Nat.lt_trans h8 h9)
      clear hu K1 K2 K3 K4
      obtain ⟨q0, E8, HQ0⟩ := wrapN ((u21 : Int).tdiv (yn1 : Int))
      have E8b : IntKind.u64.wrap ((u21 : Int) / (yn1 : Int)) = (q0 : Int) := by rw [← E8, Int.tdiv_eq_ediv_of_nonneg (by omega)]
      have hq0 := DM.quo_ HN2B.out HQ0.out
      obtain ⟨i1, i2, I3⟩ := DM.init_ HN2.out hun0 hyn0 hyn1
      rw [← hq0] at i1 i2 I3
      obtain ⟨P, E9a, HP⟩ := wrapN ((q0 : Int) * (yn1 : Int))
      obtain ⟨r0, E9, HR0⟩ := wrapN ((u21 : Int) - (P : Int))
      have hr0 := DM.rhat_ HN2B.out hq0 HP.out HR0.out
      have I4 : r0 < 4294967296 := by rw [hr0]; have := Nat.mod_lt u21 (show yn1 > 0 by omega); omega
      rw [← hr0] at i1
      have QB := hide (DM.qbound HN2.out hun0)
      have I1 := hide i1
      have I2 := hide i2
      clear i1 i2 hq0 hr0 HQ0 HP HR0
      go_upto_block 2 with fail
      go_cut [18, 16] (fun s5 _ wx => ∃ Q : Nat, s5 = .int .u64 (Q : Int) ∧ Q < 4294967296 ∧ Hid (Q = (u21 * 4294967296 + un0) / (yn1 * 4294967296 + yn0)) ∧ wx = w)
      case first =>
        go_wp2_with fail
        go_loopg [18, 16] q0 (fun left s5 s6 wx => DRel u21 yn1 yn0 un0 w left s5 s6 wx)
        case atStart => exact ⟨q0, r0, rfl, rfl, Nat.le_refl _, I1.out, I2.out, I3, I4, rfl⟩
        case round =>
          clear I1 I2
          obtain ⟨q, r, rfl, rfl, hqg, hinv, hge, hq, hr, hwx⟩ := hrel
          rw [hwx]
          have HINV := hide hinv
          have HGE := hide hge
          clear hinv hge hwx E8 E8b E9a E9
          obtain ⟨P2, F1, HP2⟩ := wrapN ((q : Int) * (yn0 : Int))
          have HP3 := hide (DM.prod_ hq hyn0 HP2.out)
          clear HP2
          by_cases hbig : 4294967296 ≤ q ∨ 4294967296 * r + un0 < q * yn0
          · obtain ⟨s1, s2, s3⟩ := DM.step_ HN2.out hun0 HINV.out hbig HGE.out
            have S2 := hide s2
            have S3 := hide s3
            have HBIG := hide hbig
            clear s2 s3 hbig
            have fin : 4294967296 ≤ r + yn1 → q - 1 = (u21 * 4294967296 + un0) / (yn1 * 4294967296 + yn0) := fun hb => DM.exit_ (by omega) S3.out S2.out (DM.break_ hyn0 (by omega) hb)
            have FIN := hide fin
            clear fin
            have d7 : ¬ 4294967296 ≤ q → decide (4294967296 * (r : Int) + (un0 : Int) < (P2 : Int)) = true := by
              intro hc
              have h2 := HP3.out
              rcases HBIG.out with h3 | h3
              · exact absurd h3 hc
              · rw [← h2] at h3
                rw [decide_eq_true_iff]
                omega
            have D7 := hide d7
            clear d7
            by_cases hbr : 4294967296 ≤ r + yn1
            · have d9 : decide ((4294967296 : Int) ≤ (r : Int) + (yn1 : Int)) = true := by rw [decide_eq_true_iff]; omega
              have hq1 : q - 1 < 4294967296 := by rw [FIN.out hbr]; exact QB.out
              by_cases hqq : 4294967296 ≤ q
              · have d8 : decide ((4294967296 : Int) ≤ (q : Int)) = true := by rw [decide_eq_true_iff]; omega
                go_wp2_with fail
                go_meet
                exact ⟨q - 1, by rw [Int.natCast_sub s1]; rfl, hq1, FIN.out hbr, rfl⟩
              · have d8 : decide ((4294967296 : Int) ≤ (q : Int)) = false := by rw [decide_eq_false_iff_not]; omega
                have d7 := D7.out hqq
                go_wp2_with fail
                go_meet
                exact ⟨q - 1, by rw [Int.natCast_sub s1]; rfl, hq1, FIN.out hbr, rfl⟩
            · have d9 : decide ((4294967296 : Int) ≤ (r : Int) + (yn1 : Int)) = false := by rw [decide_eq_false_iff_not]; omega
              by_cases hqq : 4294967296 ≤ q
              · have d8 : decide ((4294967296 : Int) ≤ (q : Int)) = true := by rw [decide_eq_true_iff]; omega
                go_wp2_with fail
                go_roundg (q - 1)
                case measure => omega
                case rel => exact ⟨q - 1, r + yn1, by rw [Int.natCast_sub s1]; rfl, by rw [Int.natCast_add], Nat.le_refl _, S3.out, S2.out, by omega, by omega, rfl⟩
              · have d8 : decide ((4294967296 : Int) ≤ (q : Int)) = false := by rw [decide_eq_false_iff_not]; omega
                have d7 := D7.out hqq
                go_wp2_with fail
                go_roundg (q - 1)
                case measure => omega
                case rel => exact ⟨q - 1, r + yn1, by rw [Int.natCast_sub s1]; rfl, by rw [Int.natCast_add], Nat.le_refl _, S3.out, S2.out, by omega, by omega, rfl⟩
          · have hqq : ¬ 4294967296 ≤ q := fun h => hbig (.inl h)
            have hle : q * yn0 ≤ 4294967296 * r + un0 := Nat.le_of_not_lt fun h => hbig (.inr h)
            have E := hide (DM.exit_ (show 0 < yn1 * 4294967296 + yn0 by omega) HINV.out HGE.out hle)
            have d8 : decide ((4294967296 : Int) ≤ (q : Int)) = false := by rw [decide_eq_false_iff_not]; omega
            have d7 : decide (4294967296 * (r : Int) + (un0 : Int) < (P2 : Int)) = false := by
              have h2 := HP3.out
              rw [← h2] at hle
              rw [decide_eq_false_iff_not]
              omega
            clear hle hbig
            go_wp2_with fail
            go_meet
            exact ⟨q, rfl, by omega, E.out, rfl⟩
      case rest =>
        obtain ⟨Q0, rfl, hQ0, HQ0, hwc⟩ := hcut
        rw [hwc]
        clear hwc E8 E8b E9a E9 I1 I2 I3 I4 QB
        have hq1y : Q1 = (un32 * 4294967296 + un1) / Y := HQ1.out.trans (by rw [HYE.out])
        have hq0y : Q0 = (u21 * 4294967296 + un0) / Y := HQ0.out.trans (by rw [HYE.out])
        have hres := DM.result_ (show 0 < y by omega) HYS.out HU.out hq1y HUR.out hq0y
        have HRES := hide hres
        clear hres hq1y hq0y
        go_wp2_with fail
        go_ret2
        refine ⟨⟨_, by rw [← HRES.out, Int.natCast_add, Int.natCast_mul]; rfl⟩, 0, rfl⟩
end Go.Proofs.Ytjhciobkofnjfaa
