/- match.Fits, match.Far; package cmp. -/
import Derived.Test.YtjanmnjmnnnfmaaDiffer
import Derived.Test.YtjanmnjmnnnfmaaInsAt
namespace Go.Proofs.Ytjanmnjmnnnfmaa
open Go.RowKit

theorem below_two (w : World) (o1 o2 : Obj) : Below w.heap.size w ((w.alloc o1).alloc o2) := ((Below.refl _ w).alloc (Nat.le_refl _) _).alloc (by simp) _
theorem two_ranges (w : World) (X Y : List Value) : ((w.alloc (.cells X.toArray 25)).alloc (.cells Y.toArray 25)).rangeAt w.heap.size 0 X ∧ ((w.alloc (.cells X.toArray 25)).alloc (.cells Y.toArray 25)).rangeAt (w.heap.size + 1) 0 Y := by
  constructor
  · intro j v hv
    rw [Nat.zero_add, (two_rows w X Y j).1]
    exact hv
  · intro j v hv
    rw [Nat.zero_add, (two_rows w X Y j).2]
    exact hv

set_option maxRecDepth 100000 in
theorem fits_any (x y : Ins) (X Y : List Value) (close : Int) (w : World) (hX : RowIs x X) (hY : RowIs y Y) (hc : bd close) (hx : bd x.am) (hy : bd y.am) :
    Calls Try.prog 12 #[.agg X.toArray, .agg Y.toArray, .int .i64 close] w fun r w' => r = .returned (.bool (fitsP x y close)) ∧ Below w.heap.size w w' := by
  have h2 := two_ranges w X Y
  have hb := below_two w (.cells X.toArray 25) (.cells Y.toArray 25)
  have Hh2 := hide h2
  have Hhb := hide hb
  clear h2 hb
  go_enter Try.func12, Try.ntmps12
  go_wp2_with (guard_target =~ wpList _ _ _ (Oper.mk _ (Op.load 25 _) _ _ _ _ :: _) _ _; first | refine wp_load_row (by rfl) _ rfl w.heap.size 0 rfl X hX.len Hh2.out.1 ?_ | refine wp_load_row (by rfl) _ rfl (w.heap.size + 1) 0 rfl Y hY.len Hh2.out.2 ?_)
  generalize (w.alloc (.cells X.toArray 25)).alloc (.cells Y.toArray 25) = W1 at Hh2 Hhb ⊢
  refine (differ_any x y X Y close W1 hX hY hc hx hy).mono ?_
  rintro r W2 ⟨⟨v, rfl, hown⟩, hb2⟩
  obtain ⟨A, c, rfl⟩ := own_slice hown
  have hl : (differP x y close).length ≤ 10 := namesOf_len _
  have he : (((differP x y close).length : Int) == 0) = fitsP x y close := by
    unfold fitsP
    cases differP x y close with
    | nil => rfl
    | cons a l => rw [beq_eq_false_iff_ne.2 (by simp; omega)]; rfl
  have hB := Hhb.out.trans (hb2.mono Hhb.out.size)
  have Hhown := hide hown
  have Hhb2 := hide hb2
  have Hhe := hide he
  have HhB := hide hB
  clear hown hb2 he hB
  go_wp2_with fail
  go_ret
  rw [← Hhe.out]
  exact ⟨rfl, HhB.out⟩

def farI (x y : Ins) : Int := if (farN x.am y.am : Int) < 9223372036854775807 then farN x.am y.am else 9223372036854775807
theorem farN_lt (a b : Int) (ha : bd a) (hb : bd b) : farN a b < 18446744073709551616 := by unfold bd at ha hb; unfold farN; omega
theorem u64_i64 (n : Int) (h0 : 0 ≤ n) (h1 : n ≤ 9223372036854775807) : IntKind.i64.wrap n = n := by rw [IntKind.wrap_i64]; omega

/-- cmp.Compare. -/
def cmpI (a b : Int) : Int := if a < b then -1 else if b < a then 1 else 0
set_option maxRecDepth 100000 in
theorem isNaN_int (a : Int) (w : World) : Calls Try.prog 77 #[.int .i64 a] w fun r w' => r = .returned (.bool false) ∧ w' = w := by
  have h : (a != a) = false := by simp
  go_enter Try.func77, Try.ntmps77
  go_wp2_with fail
  go_ret
  exact ⟨rfl, rfl⟩
set_option maxRecDepth 100000 in
theorem isNaN_u64 (a : Int) (w : World) : Calls Try.prog 76 #[.int .u64 a] w fun r w' => r = .returned (.bool false) ∧ w' = w := by
  have h : (a != a) = false := by simp
  go_enter Try.func76, Try.ntmps76
  go_wp2_with fail
  go_ret
  exact ⟨rfl, rfl⟩
set_option maxRecDepth 100000 in
theorem compare_int (a b : Int) (w : World) : Calls Try.prog 39 #[.int .i64 a, .int .i64 b] w fun r w' => r = .returned (.int .i64 (cmpI a b)) ∧ w' = w := by
  go_enter Try.func39, Try.ntmps39
  go_wp2_with fail
  refine (isNaN_int a w).mono ?_
  rintro r w1 ⟨rfl, rfl⟩
  go_wp2_with fail
  refine (isNaN_int b w1).mono ?_
  rintro r w2 ⟨rfl, rfl⟩
  by_cases h1 : a < b
  · have d1 : decide (a < b) = true := by rw [decide_eq_true_iff]; omega
    go_wp2_with fail
    go_ret
    rw [cmpI, if_pos h1]
    exact ⟨rfl, rfl⟩
  · have d1 : decide (a < b) = false := by rw [decide_eq_false_iff_not]; omega
    by_cases h2 : b < a
    · have d2 : decide (b < a) = true := by rw [decide_eq_true_iff]; omega
      go_wp2_with fail
      go_ret
      rw [cmpI, if_neg (by omega), if_pos h2]
      exact ⟨rfl, rfl⟩
    · have d2 : decide (b < a) = false := by rw [decide_eq_false_iff_not]; omega
      go_wp2_with fail
      go_ret
      rw [cmpI, if_neg (by omega), if_neg (by omega)]
      exact ⟨rfl, rfl⟩
set_option maxRecDepth 100000 in
theorem compare_u64 (a b : Int) (w : World) : Calls Try.prog 38 #[.int .u64 a, .int .u64 b] w fun r w' => r = .returned (.int .i64 (cmpI a b)) ∧ w' = w := by
  go_enter Try.func38, Try.ntmps38
  go_wp2_with fail
  refine (isNaN_u64 a w).mono ?_
  rintro r w1 ⟨rfl, rfl⟩
  go_wp2_with fail
  refine (isNaN_u64 b w1).mono ?_
  rintro r w2 ⟨rfl, rfl⟩
  by_cases h1 : a < b
  · have d1 : decide (a < b) = true := by rw [decide_eq_true_iff]; omega
    go_wp2_with fail
    go_ret
    rw [cmpI, if_pos h1]
    exact ⟨rfl, rfl⟩
  · have d1 : decide (a < b) = false := by rw [decide_eq_false_iff_not]; omega
    by_cases h2 : b < a
    · have d2 : decide (b < a) = true := by rw [decide_eq_true_iff]; omega
      go_wp2_with fail
      go_ret
      rw [cmpI, if_neg (by omega), if_pos h2]
      exact ⟨rfl, rfl⟩
    · have d2 : decide (b < a) = false := by rw [decide_eq_false_iff_not]; omega
      go_wp2_with fail
      go_ret
      rw [cmpI, if_neg (by omega), if_neg (by omega)]
      exact ⟨rfl, rfl⟩

/-- cmp.Or of two. -/
def or2 (a b : Int) : Int := if a = 0 then b else a
set_option maxRecDepth 100000 in
theorem or_two (g : Nat) (a b : Int) (w : World) (ha : w.cell? ⟨g, 0, none⟩ = some (.int .i64 a)) (hb : w.cell? ⟨g, 1, none⟩ = some (.int .i64 b)) :
    Calls Try.prog 37 #[.slice (some ⟨g, 0, none⟩) 2 2] w fun r w' => r = .returned (.int .i64 (or2 a b)) ∧ w' = w := by
  go_enter Try.func37, Try.ntmps37
  go_wp2_with fail
  refine wp_loop_rounds 3 ?_
  rw [rounds_succ]
  by_cases h1 : a = 0
  · have d1 : (a != 0) = false := by rw [h1]; rfl
    go_wp2_with fail
    rw [rounds_succ]
    by_cases h2 : b = 0
    · have d2 : (b != 0) = false := by rw [h2]; rfl
      go_wp2_with fail
      rw [rounds_succ]
      go_wp2_with fail
      go_ret
      rw [or2, if_pos h1, h2]
      exact ⟨rfl, rfl⟩
    · have d2 : (b != 0) = true := bne_iff_ne.2 h2
      go_wp2_with fail
      go_ret
      rw [or2, if_pos h1]
      exact ⟨rfl, rfl⟩
  · have d1 : (a != 0) = true := bne_iff_ne.2 h1
    go_wp2_with fail
    go_ret
    rw [or2, if_neg h1]
    exact ⟨rfl, rfl⟩
end Go.Proofs.Ytjanmnjmnnnfmaa
