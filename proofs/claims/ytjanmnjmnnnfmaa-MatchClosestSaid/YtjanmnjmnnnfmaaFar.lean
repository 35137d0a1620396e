/- match.far and match.Far. -/
import Derived.Test.YtjanmnjmnnnfmaaDiffReg
import Derived.Deep.CutBlock
import Derived.Deep.DeepCutAuto
import Derived.Deep.LoopGhost
namespace Go.Proofs.Ytjanmnjmnnnfmaa
open Go.RowKit

/-- By how much two numbers differ. -/
def farN (a b : Int) : Nat := (a - b).natAbs
theorem u64_sub {a b : Int} (ha : bd a) (hb : bd b) (h : b ≤ a) : IntKind.u64.wrap (IntKind.u64.wrap a - IntKind.u64.wrap b) = ((a - b).toNat : Int) := by
  unfold bd at ha hb
  simp only [IntKind.wrap_u64] at *
  omega

set_option maxRecDepth 100000 in
theorem far_any (a b : Int) (w : World) (ha : bd a) (hb : bd b) :
    Calls Try.prog 31 #[.int .i64 a, .int .i64 b] w fun r w' => r = .returned (.int .u64 (farN a b)) ∧ w' = w := by
  go_enter Try.func31, Try.ntmps31
  by_cases h : a < b
  · have e := u64_sub hb ha (Int.le_of_lt h)
    have e2 : (b - a).toNat = farN a b := by unfold farN; omega
    rw [e2] at e
    have E := hide e
    clear e e2 ha hb
    have d1 : decide (a < b) = true := by rw [decide_eq_true_iff]; omega
    go_wp2_with fail
    go_ret
    rw [E.out]
    exact ⟨rfl, rfl⟩
  · have e := u64_sub ha hb (Int.not_lt.1 h)
    have e2 : (a - b).toNat = farN a b := by unfold farN; omega
    rw [e2] at e
    have E := hide e
    clear e e2 ha hb
    have d1 : decide (a < b) = false := by rw [decide_eq_false_iff_not]; omega
    go_wp2_with fail
    go_ret
    rw [E.out]
    exact ⟨rfl, rfl⟩
end Go.Proofs.Ytjanmnjmnnnfmaa
