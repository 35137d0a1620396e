/- complinelaw12.InstShares: the law's walk. -/
import Derived.Test.YtjhciobkofnjfaaShareLaw
import Derived.Deep.CutBlock
namespace Go.Proofs.Ytjhciobkofnjfaa
open Go.RowKit

set_option maxHeartbeats 1600000 in
set_option maxRecDepth 100000 in
theorem shares_law (qty am done a b : Int) (w : World) (hbq : bd qty) (hba : bd am) (hbd : bd done) (hb1 : bd a) (hb2 : bd b) :
    Calls Try.prog 12 #[.int .i64 qty, .int .i64 am, .int .i64 done, .int .i64 a, .int .i64 b] w fun r w' => r = .returned (.bool true) ∧ Below w.heap.size w w' := by
  unfold bd at hbq hba hbd hb1 hb2
  go_enter Try.func12, Try.ntmps12
  by_cases g0 : qty < 1
  · have d0 : decide (qty < 1) = true := by rw [decide_eq_true_iff]; exact g0
    go_wp2_with fail
    refine (alive12 w).mono ?_
    rintro r W1 ⟨rfl, hw1⟩
    have HW1 := hide hw1
    clear hw1
    go_wp2_with fail
    go_ret
    exact ⟨rfl, HW1.out⟩
  have d0 : decide (qty < 1) = false := by rw [decide_eq_false_iff_not]; exact g0
  by_cases g1 : 1099511627776 < qty
  · have d1 : decide (1099511627776 < qty) = true := by rw [decide_eq_true_iff]; exact g1
    go_wp2_with fail
    refine (alive12 w).mono ?_
    rintro r W1 ⟨rfl, hw1⟩
    have HW1 := hide hw1
    clear hw1
    go_wp2_with fail
    go_ret
    exact ⟨rfl, HW1.out⟩
  have d1 : decide (1099511627776 < qty) = false := by rw [decide_eq_false_iff_not]; exact g1
  by_cases g2 : am < 0
  · have d2 : decide (am < 0) = true := by rw [decide_eq_true_iff]; exact g2
    go_wp2_with fail
    refine (alive12 w).mono ?_
    rintro r W1 ⟨rfl, hw1⟩
    have HW1 := hide hw1
    clear hw1
    go_wp2_with fail
    go_ret
    exact ⟨rfl, HW1.out⟩
  have d2 : decide (am < 0) = false := by rw [decide_eq_false_iff_not]; exact g2
  by_cases g3 : 1125899906842624 < am
  · have d3 : decide (1125899906842624 < am) = true := by rw [decide_eq_true_iff]; exact g3
    go_wp2_with fail
    refine (alive12 w).mono ?_
    rintro r W1 ⟨rfl, hw1⟩
    have HW1 := hide hw1
    clear hw1
    go_wp2_with fail
    go_ret
    exact ⟨rfl, HW1.out⟩
  have d3 : decide (1125899906842624 < am) = false := by rw [decide_eq_false_iff_not]; exact g3
  by_cases g4 : done < 0
  · have d4 : decide (done < 0) = true := by rw [decide_eq_true_iff]; exact g4
    go_wp2_with fail
    refine (alive12 w).mono ?_
    rintro r W1 ⟨rfl, hw1⟩
    have HW1 := hide hw1
    clear hw1
    go_wp2_with fail
    go_ret
    exact ⟨rfl, HW1.out⟩
  have d4 : decide (done < 0) = false := by rw [decide_eq_false_iff_not]; exact g4
  by_cases g5 : qty < done
  · have d5 : decide (qty < done) = true := by rw [decide_eq_true_iff]; exact g5
    go_wp2_with fail
    refine (alive12 w).mono ?_
    rintro r W1 ⟨rfl, hw1⟩
    have HW1 := hide hw1
    clear hw1
    go_wp2_with fail
    go_ret
    exact ⟨rfl, HW1.out⟩
  have d5 : decide (qty < done) = false := by rw [decide_eq_false_iff_not]; exact g5
  by_cases g6 : a < 0
  · have d6 : decide (a < 0) = true := by rw [decide_eq_true_iff]; exact g6
    go_wp2_with fail
    refine (alive12 w).mono ?_
    rintro r W1 ⟨rfl, hw1⟩
    have HW1 := hide hw1
    clear hw1
    go_wp2_with fail
    go_ret
    exact ⟨rfl, HW1.out⟩
  have d6 : decide (a < 0) = false := by rw [decide_eq_false_iff_not]; exact g6
  by_cases g7 : b < a
  · have d7 : decide (b < a) = true := by rw [decide_eq_true_iff]; exact g7
    go_wp2_with fail
    refine (alive12 w).mono ?_
    rintro r W1 ⟨rfl, hw1⟩
    have HW1 := hide hw1
    clear hw1
    go_wp2_with fail
    go_ret
    exact ⟨rfl, HW1.out⟩
  have d7 : decide (b < a) = false := by rw [decide_eq_false_iff_not]; exact g7
  by_cases g8 : qty - done < b
  · have d8 : decide (qty - done < b) = true := by rw [decide_eq_true_iff]; exact g8
    go_wp2_with fail
    refine (alive12 w).mono ?_
    rintro r W1 ⟨rfl, hw1⟩
    have HW1 := hide hw1
    clear hw1
    go_wp2_with fail
    go_ret
    exact ⟨rfl, HW1.out⟩
  have d8 : decide (qty - done < b) = false := by rw [decide_eq_false_iff_not]; exact g8
  go_wp2_with (guard_target =~ wpList _ _ _ (Oper.mk _ (Op.store 72 _ _) _ _ _ _ :: _) _ _; refine wp_store_inst rfl _ _ rfl w.heap.size rfl (zrow qty am 0 0) rfl rfl (zrow_one _ _ _ _) (there_new _ _ rfl) ?_)
  intro W1 hr1 ht1 ho1
  have hb1 : Below w.heap.size w W1 := ((Only.refl (fun k => k = w.heap.size) w).alloc _ |>.trans ho1 (fun i hi => .inl hi)).toBelow (Nat.le_refl _) (fun i hi => by omega)
  have hg1 : w.heap.size < W1.heap.size := Nat.lt_of_lt_of_le (by simp) ho1.size
  have hn := zrow_is qty am 0 0
  have HZ : Hid (∀ d' p', ((zrow qty am 0 0).set 19 (.int .i64 d')).set 20 (.int .i64 p') = zrow qty am d' p') := fun _ _ => rfl
  generalize zrow qty am 0 0 = X at hr1 hn HZ
  have HN := hide hn
  have R := hide hr1
  have T := hide ht1
  have B1 := hide hb1
  clear hr1 hb1 ho1 hn ht1
  go_wp2_with (guard_target =~ wpList _ _ _ (Oper.mk _ (Op.load 72 _) _ _ _ _ :: _) _ _; refine wp_load_inst (by rfl) _ rfl w.heap.size rfl X HN.out.len (range_at R.out) ?_)
  refine (owes_inst X qty am 0 0 done W1 HN.out hbq hba (by unfold bd; decide)).mono ?_
  rintro r W2 ⟨rfl, hb2'⟩
  obtain ⟨sv, sv0, sv1⟩ := share_valid (am := am) (k := done) (qty := qty) (by omega) (by omega) (by omega) (by omega) (by omega)
  have ho := owes_valid (qty := qty) (am := am) (d := 0) (p := 0) (q := done) (by omega) (by omega) (by omega) (by omega) (by omega) (by omega) (by omega) (by rw [Int.zero_add]; exact sv0)
  rw [Int.zero_add, Int.sub_zero] at ho
  rw [ho]
  dsimp only
  obtain ⟨p, hp⟩ : ∃ p, p = am * done / qty := ⟨_, rfl⟩
  rw [← hp] at sv0 sv1 ⊢
  have HP := hide hp
  have R2 := hide (range_below R.out hb2' hg1)
  have T2 := hide (there_below T.out hb2' hg1)
  have B2 := hide (B1.out.trans (hb2'.mono B1.out.size))
  have hg2 : w.heap.size < W2.heap.size := Nat.lt_of_lt_of_le hg1 hb2'.size
  have c19 := range_at R2.out 19 _ HN.out.d
  have c20 := range_at R2.out 20 _ HN.out.p
  have f19 := there_cell T2.out (show 19 < 21 by omega)
  have f20 := there_cell T2.out (show 20 < 21 by omega)
  clear hb2' R T B1 hg1 ho sv hp
  go_upto_region 8 with fail
  obtain ⟨r3, t3⟩ := range_set (show 19 < 21 by omega) (.int .i64 done) R2.out T2.out
  obtain ⟨r4, t4⟩ := range_set (show 20 < 21 by omega) (.int .i64 p) r3 t3
  rw [HZ.out done p] at r4
  have ho4 : Only (fun k => k = w.heap.size) W2 ((W2.setCell ⟨w.heap.size, 19, none⟩ (.int .i64 done)).setCell ⟨w.heap.size, 20, none⟩ (.int .i64 p)) := ((Only.refl (fun k => k = w.heap.size) W2).setCell (p := ⟨w.heap.size, 19, none⟩) (.inl rfl) _).setCell (p := ⟨w.heap.size, 20, none⟩) (.inl rfl) _
  have hb4 := B2.out.trans (ho4.toBelow B2.out.size (fun i hi => by omega))
  have hg4 := Nat.lt_of_lt_of_le hg2 ho4.size
  have hn4 := zrow_is qty am done p
  clear ho4 r3 t3 t4 c19 c20 f19 f20
  generalize (W2.setCell ⟨w.heap.size, 19, none⟩ (.int .i64 done)).setCell ⟨w.heap.size, 20, none⟩ (.int .i64 p) = W4 at r4 hb4 hg4 ⊢
  generalize zrow qty am done p = Y at r4 hn4
  have R4 := hide r4
  have B4 := hide hb4
  have HY := hide hn4
  clear r4 hb4 hn4 R2 T2 B2 hg2 HZ HN
  have hbp : bd p := by unfold bd; omega
  have m1 := share_mono (am := am) (qty := qty) (k := done) (l := done + a) (by omega) (by omega) (by omega)
  have m2 := share_mono (am := am) (qty := qty) (k := done + a) (l := done + b) (by omega) (by omega) (by omega)
  have m3 := share_mono (am := am) (qty := qty) (k := done + b) (l := qty) (by omega) (by omega) (by omega)
  have m4 := share_all (am := am) (qty := qty) (by omega)
  have oa := owes_valid (qty := qty) (am := am) (d := done) (p := p) (q := a) (by omega) (by omega) (by omega) (by omega) (by omega) (by omega) (by omega) (by rw [HP.out]; exact m1)
  have ob := owes_valid (qty := qty) (am := am) (d := done) (p := p) (q := b) (by omega) (by omega) (by omega) (by omega) (by omega) (by omega) (by omega) (by rw [HP.out]; omega)
  have oc := owes_valid (qty := qty) (am := am) (d := done) (p := p) (q := qty - done) (by omega) (by omega) (by omega) (by omega) (by omega) (by omega) (by omega) (by rw [HP.out, show done + (qty - done) = qty by omega]; omega)
  have od := owes_more (qty := qty) (am := am) (d := done) (p := p) (q := qty - done + 1) (by omega) (by omega) (by omega)
  rw [show done + (qty - done) = qty by omega, m4] at oc
  rw [← HP.out] at m1
  rw [m4] at m3
  obtain ⟨u, hu⟩ : ∃ u, u = am * (done + a) / qty := ⟨_, rfl⟩
  obtain ⟨v, hv⟩ : ∃ v, v = am * (done + b) / qty := ⟨_, rfl⟩
  rw [← hu] at oa m1 m2
  rw [← hv] at ob m2 m3
  have OA := hide oa
  have OB := hide ob
  have OC := hide oc
  have OD := hide od
  clear oa ob oc od hu hv m4
  go_wp2_with (guard_target =~ wpList _ _ _ (Oper.mk _ (Op.load 72 _) _ _ _ _ :: _) _ _; refine wp_load_inst (by rfl) _ rfl w.heap.size rfl Y HY.out.len (range_at R4.out) ?_)
  refine (owes_inst Y qty am done p (a) W4 HY.out hbq hba hbd).mono ?_
  rintro r W5 ⟨rfl, hbx⟩
  rw [OA.out]
  dsimp only
  have R5 := hide (range_below R4.out hbx hg4)
  have B5 := hide (B4.out.trans (hbx.mono B4.out.size))
  have hg5 := Nat.lt_of_lt_of_le hg4 hbx.size
  clear hbx R4 B4 hg4
  go_wp2_with (guard_target =~ wpList _ _ _ (Oper.mk _ (Op.load 72 _) _ _ _ _ :: _) _ _; refine wp_load_inst (by rfl) _ rfl w.heap.size rfl Y HY.out.len (range_at R5.out) ?_)
  refine (owes_inst Y qty am done p (b) W5 HY.out hbq hba hbd).mono ?_
  rintro r W6 ⟨rfl, hbx⟩
  rw [OB.out]
  dsimp only
  have R6 := hide (range_below R5.out hbx hg5)
  have B6 := hide (B5.out.trans (hbx.mono B5.out.size))
  have hg6 := Nat.lt_of_lt_of_le hg5 hbx.size
  clear hbx R5 B5 hg5
  go_wp2_with (guard_target =~ wpList _ _ _ (Oper.mk _ (Op.load 72 _) _ _ _ _ :: _) _ _; refine wp_load_inst (by rfl) _ rfl w.heap.size rfl Y HY.out.len (range_at R6.out) ?_)
  refine (owes_inst Y qty am done p (qty - done) W6 HY.out hbq hba hbd).mono ?_
  rintro r W7 ⟨rfl, hbx⟩
  rw [OC.out]
  dsimp only
  have R7 := hide (range_below R6.out hbx hg6)
  have B7 := hide (B6.out.trans (hbx.mono B6.out.size))
  have hg7 := Nat.lt_of_lt_of_le hg6 hbx.size
  clear hbx R6 B6 hg6
  go_wp2_with (guard_target =~ wpList _ _ _ (Oper.mk _ (Op.load 72 _) _ _ _ _ :: _) _ _; refine wp_load_inst (by rfl) _ rfl w.heap.size rfl Y HY.out.len (range_at R7.out) ?_)
  refine (owes_inst Y qty am done p (qty - done + 1) W7 HY.out hbq hba hbd).mono ?_
  rintro r W8 ⟨rfl, hbx⟩
  rw [OD.out]
  dsimp only
  have R8 := hide (range_below R7.out hbx hg7)
  have B8 := hide (B7.out.trans (hbx.mono B7.out.size))
  have hg8 := Nat.lt_of_lt_of_le hg7 hbx.size
  clear hbx R7 B7 hg7
  go_wp2_with fail
  refine (alive12 W8).mono ?_
  rintro r W9 ⟨rfl, hbx⟩
  have B9 := hide (B8.out.trans (hbx.mono B8.out.size))
  clear hbx B8 R8 hg8
  have t1 : decide (u - p ≤ v - p) = true := by rw [decide_eq_true_iff]; omega
  have t2 : decide (v - p ≤ am - p) = true := by rw [decide_eq_true_iff]; omega
  go_wp2_with fail
  go_ret
  exact ⟨rfl, B9.out⟩
end Go.Proofs.Ytjhciobkofnjfaa
