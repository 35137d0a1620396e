/- complinelaw12.InstParts: the law's walk. -/
import Derived.Test.YtjhciobkofnjfaaShareLaw
import Derived.Deep.CutBlock
import Derived.Deep.LoopGhost
import Derived.Deep.DeepCutAuto
import Derived.Test.YtjhciobkofnjfaaFirst
namespace Go.Proofs.Ytjhciobkofnjfaa
open Go.RowKit

/-- What was settled so far, and what was paid for it. -/
def PartsRel (w : World) (qty am : Int) (ps : List Int) (left : Nat) (s8 : Value) (W : World) : Prop :=
  ∃ (i : Nat) (d : Int), i ≤ ps.length + 1 ∧ left = ps.length + 1 - i ∧ s8 = .int .i64 i ∧ 0 ≤ d ∧ d ≤ qty ∧ (i = ps.length + 1 → d = qty) ∧ W.rangeAt w.heap.size 0 (zrow qty am d (am * d / qty)) ∧ W.there w.heap.size 0 21 ∧ Below w.heap.size w W ∧ w.heap.size < W.heap.size

set_option maxHeartbeats 1600000 in
set_option maxRecDepth 100000 in
theorem parts_law (qty am : Int) (A : Option Addr) (n c : Nat) (ps : List Int) (w : World) (hbq : bd qty) (hba : bd am) (hr : Reads w A n (ints ps)) (hb : 0 < n → ∀ ad, A = some ad → ad.block < w.heap.size) (hx : ∀ x ∈ ps, bd x) (hn : n ≤ maxLen) :
    Calls Try.prog 11 #[.int .i64 qty, .int .i64 am, .slice A n c] w fun r w' => r = .returned (.bool true) ∧ Below w.heap.size w w' := by
  unfold bd at hbq hba
  unfold maxLen at hn
  have hnx : ps.length = n := by have := hr.1; simpa [ints] using this
  subst hnx
  have HR := hide hr
  have HX := hide hx
  have HB := hide hb
  clear hr hx hb
  go_enter Try.func11, Try.ntmps11
  by_cases g0 : qty < 1
  · have d0 : decide (qty < 1) = true := by rw [decide_eq_true_iff]; exact g0
    go_wp2_with fail
    refine (alive12 w).mono ?_
    rintro r W1 ⟨rfl, hw1⟩
    have HW1 := hide hw1
    clear hw1
    go_wp2_with fail
    go_ret
    exact ⟨rfl, HW1.out⟩
  have d0 : decide (qty < 1) = false := by rw [decide_eq_false_iff_not]; exact g0
  by_cases g1 : 1099511627776 < qty
  · have d1 : decide (1099511627776 < qty) = true := by rw [decide_eq_true_iff]; exact g1
    go_wp2_with fail
    refine (alive12 w).mono ?_
    rintro r W1 ⟨rfl, hw1⟩
    have HW1 := hide hw1
    clear hw1
    go_wp2_with fail
    go_ret
    exact ⟨rfl, HW1.out⟩
  have d1 : decide (1099511627776 < qty) = false := by rw [decide_eq_false_iff_not]; exact g1
  by_cases g2 : am < 0
  · have d2 : decide (am < 0) = true := by rw [decide_eq_true_iff]; exact g2
    go_wp2_with fail
    refine (alive12 w).mono ?_
    rintro r W1 ⟨rfl, hw1⟩
    have HW1 := hide hw1
    clear hw1
    go_wp2_with fail
    go_ret
    exact ⟨rfl, HW1.out⟩
  have d2 : decide (am < 0) = false := by rw [decide_eq_false_iff_not]; exact g2
  by_cases g3 : 1125899906842624 < am
  · have d3 : decide (1125899906842624 < am) = true := by rw [decide_eq_true_iff]; exact g3
    go_wp2_with fail
    refine (alive12 w).mono ?_
    rintro r W1 ⟨rfl, hw1⟩
    have HW1 := hide hw1
    clear hw1
    go_wp2_with fail
    go_ret
    exact ⟨rfl, HW1.out⟩
  have d3 : decide (1125899906842624 < am) = false := by rw [decide_eq_false_iff_not]; exact g3
  by_cases g4 : 60 < ps.length
  · have d4 : decide ((60 : Int) < (ps.length : Int)) = true := by rw [decide_eq_true_iff]; omega
    go_wp2_with fail
    refine (alive12 w).mono ?_
    rintro r W1 ⟨rfl, hw1⟩
    have HW1 := hide hw1
    clear hw1
    go_wp2_with fail
    go_ret
    exact ⟨rfl, HW1.out⟩
  have d4 : decide ((60 : Int) < (ps.length : Int)) = false := by rw [decide_eq_false_iff_not]; omega
  go_wp2_with (guard_target =~ wpList _ _ _ (Oper.mk _ (Op.store 72 _ _) _ _ _ _ :: _) _ _; refine wp_store_inst rfl _ _ rfl w.heap.size rfl (zrow qty am 0 0) rfl rfl (zrow_one _ _ _ _) (there_new _ _ rfl) ?_)
  intro W1 hr1 ht1 ho1
  have hb1 : Below w.heap.size w W1 := ((Only.refl (fun k => k = w.heap.size) w).alloc _ |>.trans ho1 (fun i hi => .inl hi)).toBelow (Nat.le_refl _) (fun i hi => by omega)
  have hg1 : w.heap.size < W1.heap.size := Nat.lt_of_lt_of_le (by simp) ho1.size
  have R := hide hr1
  have T := hide ht1
  have B1 := hide hb1
  clear hr1 hb1 ho1 ht1
  go_wp2_with fail
  go_loopg [8] (ps.length + 1) (fun left s8 wx => PartsRel w qty am ps left s8 wx)
  case atStart => exact ⟨0, 0, Nat.zero_le _, rfl, rfl, by omega, by omega, by omega, by rw [Int.mul_zero, Int.zero_ediv]; exact R.out, T.out, B1.out, hg1⟩
  case round =>
    clear R T B1 hg1
    obtain ⟨i, d, hi, rfl, rfl, hd0, hdq, hend, hrr, htt, hbb, hgg⟩ := hrel
    obtain ⟨p, hp⟩ : ∃ p, p = am * d / qty := ⟨_, rfl⟩
    have hpv := share_valid (am := am) (k := d) (qty := qty) (by omega) (by omega) hd0 hdq (by omega)
    rw [← hp] at hrr hpv
    obtain ⟨_, hp0, hp1⟩ := hpv
    have hnz := zrow_is qty am d p
    have HZ : Hid (∀ d' p', ((zrow qty am d p).set 19 (.int .i64 d')).set 20 (.int .i64 p') = zrow qty am d' p') := fun _ _ => rfl
    generalize zrow qty am d p = X at hrr hnz HZ
    have HN := hide hnz
    have R := hide hrr
    have T := hide htt
    have B1 := hide hbb
    have HP := hide hp
    have HE := hide hend
    clear hrr htt hbb hnz hp hend
    have hbd_ : bd d := by unfold bd; omega
    have hbp : bd p := by unfold bd; omega
    by_cases hlt : i ≤ ps.length
    · have e1 : decide (i ≤ ps.length) = true := by rw [decide_eq_true_iff]; exact hlt
      have hl : leftP qty d = qty - d := by rw [leftP, if_neg (by omega)]
      go_wp2_with (guard_target =~ wpList _ _ _ (Oper.mk _ (Op.load 72 _) _ _ _ _ :: _) _ _; refine wp_load_inst (by rfl) _ rfl w.heap.size rfl X HN.out.len (range_at R.out) ?_)
      refine (left_inst X qty am d p wr HN.out hbq.2).mono ?_
      rintro r W2 ⟨rfl, hb2⟩
      rw [hl]
      clear hl
      have R2 := hide (range_below R.out hb2 hgg)
      have T2 := hide (there_below T.out hb2 hgg)
      have B2 := hide (B1.out.trans (hb2.mono B1.out.size))
      have hg2 := Nat.lt_of_lt_of_le hgg hb2.size
      clear hb2 R T B1 hgg
      by_cases hil : i < ps.length
      · have e2 : decide (i < ps.length) = true := by rw [decide_eq_true_iff]; exact hil
        obtain ⟨ad, u, rfl, hu, hcell⟩ := HR.out.at_ hil
        have hu2 : u = .int .i64 (ps[i]'hil) := by
          simp only [ints, List.getElem?_map, List.getElem?_eq_getElem hil, Option.map_some, Option.some.injEq] at hu
          exact hu.symm
        subst hu2
        clear hu
        have hxb := HX.out (ps[i]'hil) (List.getElem_mem hil)
        have hc2 := (B2.out.cell (p := ad.add i) (by rw [block_of_add]; exact HB.out (by omega) ad rfl)).trans hcell
        generalize ps[i]'hil = x at hc2 hxb
        clear hcell
        unfold bd at hxb
        by_cases hx0 : 0 ≤ x
        · have e3 : decide (0 ≤ x) = true := by rw [decide_eq_true_iff]; exact hx0
          go_upto_region 10 with fail
          obtain ⟨q, hq⟩ : ∃ q, q = min (qty - d) x := ⟨_, rfl⟩
          rw [← hq]
          have q1 : 0 ≤ q ∧ q ≤ qty - d ∧ (i = ps.length → q = qty - d) := by omega
          obtain ⟨hq0, hq1, hqe⟩ := q1
          have HQE := hide hqe
          clear hqe
          clear hq
          obtain ⟨sv, sv0, sv1⟩ := share_valid (am := am) (k := d + q) (qty := qty) (by omega) (by omega) (by omega) (by omega) (by omega)
          have mono := share_mono (am := am) (qty := qty) (k := d) (l := d + q) (by omega) (by omega) (by omega)
          rw [← HP.out] at mono
          have ho := owes_valid (qty := qty) (am := am) (d := d) (p := p) (q := q) (by omega) (by omega) (by omega) (by omega) (by omega) (by omega) (by omega) mono
          obtain ⟨p2, hp2⟩ : ∃ p2, p2 = am * (d + q) / qty := ⟨_, rfl⟩
          rw [← hp2] at ho sv0 sv1 mono
          have HP2 := hide hp2
          have HO := hide ho
          clear ho hp2 sv
          go_wp2_with (guard_target =~ wpList _ _ _ (Oper.mk _ (Op.load 72 _) _ _ _ _ :: _) _ _; refine wp_load_inst (by rfl) _ rfl w.heap.size rfl X HN.out.len (range_at R2.out) ?_)
          refine (owes_inst X qty am d p q W2 HN.out hbq hba hbd_).mono ?_
          rintro r W3 ⟨rfl, hb3⟩
          rw [HO.out]
          dsimp only
          have R3 := hide (range_below R2.out hb3 hg2)
          have T3 := hide (there_below T2.out hb3 hg2)
          have B3 := hide (B2.out.trans (hb3.mono B2.out.size))
          have hg3 := Nat.lt_of_lt_of_le hg2 hb3.size
          clear hb3 R2 T2 B2 hg2
          have c19 := range_at R3.out 19 _ HN.out.d
          have c20 := range_at R3.out 20 _ HN.out.p
          have f19 := there_cell T3.out (show 19 < 21 by omega)
          have f20 := there_cell T3.out (show 20 < 21 by omega)
          have e4 : decide (p2 - p < 0) = false := by rw [decide_eq_false_iff_not]; omega
          have e5 : p + (p2 - p) = p2 := by omega
          go_wp2_with fail
          go_roundg (ps.length + 1 - (i + 1))
          case measure => omega
          case rel =>
            obtain ⟨r3, t3⟩ := range_set (show 19 < 21 by omega) (.int .i64 (d + q)) R3.out T3.out
            obtain ⟨r4, t4⟩ := range_set (show 20 < 21 by omega) (.int .i64 p2) r3 t3
            rw [HZ.out (d + q) p2] at r4
            have ho4 : Only (fun k => k = w.heap.size) W3 ((W3.setCell ⟨w.heap.size, 19, none⟩ (.int .i64 (d + q))).setCell ⟨w.heap.size, 20, none⟩ (.int .i64 p2)) := ((Only.refl (fun k => k = w.heap.size) W3).setCell (p := ⟨w.heap.size, 19, none⟩) (.inl rfl) _).setCell (p := ⟨w.heap.size, 20, none⟩) (.inl rfl) _
            refine ⟨i + 1, d + q, by omega, rfl, by go_num, by omega, by omega, ?_, ?_, t4, B3.out.trans (ho4.toBelow B3.out.size (fun i hi => by omega)), Nat.lt_of_lt_of_le hg3 ho4.size⟩
            · intro h
              have := HQE.out (by omega)
              omega
            · rw [← HP2.out]
              exact r4
        · have e3 : decide (0 ≤ x) = false := by rw [decide_eq_false_iff_not]; exact hx0
          go_upto_region 10 with fail
          obtain ⟨q, hq⟩ : ∃ q, q = qty - d := ⟨_, rfl⟩
          rw [← hq]
          have q1 : 0 ≤ q ∧ q ≤ qty - d ∧ (i = ps.length → q = qty - d) := by omega
          obtain ⟨hq0, hq1, hqe⟩ := q1
          have HQE := hide hqe
          clear hqe
          clear hq
          obtain ⟨sv, sv0, sv1⟩ := share_valid (am := am) (k := d + q) (qty := qty) (by omega) (by omega) (by omega) (by omega) (by omega)
          have mono := share_mono (am := am) (qty := qty) (k := d) (l := d + q) (by omega) (by omega) (by omega)
          rw [← HP.out] at mono
          have ho := owes_valid (qty := qty) (am := am) (d := d) (p := p) (q := q) (by omega) (by omega) (by omega) (by omega) (by omega) (by omega) (by omega) mono
          obtain ⟨p2, hp2⟩ : ∃ p2, p2 = am * (d + q) / qty := ⟨_, rfl⟩
          rw [← hp2] at ho sv0 sv1 mono
          have HP2 := hide hp2
          have HO := hide ho
          clear ho hp2 sv
          go_wp2_with (guard_target =~ wpList _ _ _ (Oper.mk _ (Op.load 72 _) _ _ _ _ :: _) _ _; refine wp_load_inst (by rfl) _ rfl w.heap.size rfl X HN.out.len (range_at R2.out) ?_)
          refine (owes_inst X qty am d p q W2 HN.out hbq hba hbd_).mono ?_
          rintro r W3 ⟨rfl, hb3⟩
          rw [HO.out]
          dsimp only
          have R3 := hide (range_below R2.out hb3 hg2)
          have T3 := hide (there_below T2.out hb3 hg2)
          have B3 := hide (B2.out.trans (hb3.mono B2.out.size))
          have hg3 := Nat.lt_of_lt_of_le hg2 hb3.size
          clear hb3 R2 T2 B2 hg2
          have c19 := range_at R3.out 19 _ HN.out.d
          have c20 := range_at R3.out 20 _ HN.out.p
          have f19 := there_cell T3.out (show 19 < 21 by omega)
          have f20 := there_cell T3.out (show 20 < 21 by omega)
          have e4 : decide (p2 - p < 0) = false := by rw [decide_eq_false_iff_not]; omega
          have e5 : p + (p2 - p) = p2 := by omega
          go_wp2_with fail
          go_roundg (ps.length + 1 - (i + 1))
          case measure => omega
          case rel =>
            obtain ⟨r3, t3⟩ := range_set (show 19 < 21 by omega) (.int .i64 (d + q)) R3.out T3.out
            obtain ⟨r4, t4⟩ := range_set (show 20 < 21 by omega) (.int .i64 p2) r3 t3
            rw [HZ.out (d + q) p2] at r4
            have ho4 : Only (fun k => k = w.heap.size) W3 ((W3.setCell ⟨w.heap.size, 19, none⟩ (.int .i64 (d + q))).setCell ⟨w.heap.size, 20, none⟩ (.int .i64 p2)) := ((Only.refl (fun k => k = w.heap.size) W3).setCell (p := ⟨w.heap.size, 19, none⟩) (.inl rfl) _).setCell (p := ⟨w.heap.size, 20, none⟩) (.inl rfl) _
            refine ⟨i + 1, d + q, by omega, rfl, by go_num, by omega, by omega, ?_, ?_, t4, B3.out.trans (ho4.toBelow B3.out.size (fun i hi => by omega)), Nat.lt_of_lt_of_le hg3 ho4.size⟩
            · intro h
              have := HQE.out (by omega)
              omega
            · rw [← HP2.out]
              exact r4
      · have e2 : decide (i < ps.length) = false := by rw [decide_eq_false_iff_not]; exact hil
        go_upto_region 10 with fail
        obtain ⟨q, hq⟩ : ∃ q, q = qty - d := ⟨_, rfl⟩
        rw [← hq]
        have q1 : 0 ≤ q ∧ q ≤ qty - d ∧ (i = ps.length → q = qty - d) := by omega
        obtain ⟨hq0, hq1, hqe⟩ := q1
        have HQE := hide hqe
        clear hqe
        clear hq
        obtain ⟨sv, sv0, sv1⟩ := share_valid (am := am) (k := d + q) (qty := qty) (by omega) (by omega) (by omega) (by omega) (by omega)
        have mono := share_mono (am := am) (qty := qty) (k := d) (l := d + q) (by omega) (by omega) (by omega)
        rw [← HP.out] at mono
        have ho := owes_valid (qty := qty) (am := am) (d := d) (p := p) (q := q) (by omega) (by omega) (by omega) (by omega) (by omega) (by omega) (by omega) mono
        obtain ⟨p2, hp2⟩ : ∃ p2, p2 = am * (d + q) / qty := ⟨_, rfl⟩
        rw [← hp2] at ho sv0 sv1 mono
        have HP2 := hide hp2
        have HO := hide ho
        clear ho hp2 sv
        go_wp2_with (guard_target =~ wpList _ _ _ (Oper.mk _ (Op.load 72 _) _ _ _ _ :: _) _ _; refine wp_load_inst (by rfl) _ rfl w.heap.size rfl X HN.out.len (range_at R2.out) ?_)
        refine (owes_inst X qty am d p q W2 HN.out hbq hba hbd_).mono ?_
        rintro r W3 ⟨rfl, hb3⟩
        rw [HO.out]
        dsimp only
        have R3 := hide (range_below R2.out hb3 hg2)
        have T3 := hide (there_below T2.out hb3 hg2)
        have B3 := hide (B2.out.trans (hb3.mono B2.out.size))
        have hg3 := Nat.lt_of_lt_of_le hg2 hb3.size
        clear hb3 R2 T2 B2 hg2
        have c19 := range_at R3.out 19 _ HN.out.d
        have c20 := range_at R3.out 20 _ HN.out.p
        have f19 := there_cell T3.out (show 19 < 21 by omega)
        have f20 := there_cell T3.out (show 20 < 21 by omega)
        have e4 : decide (p2 - p < 0) = false := by rw [decide_eq_false_iff_not]; omega
        have e5 : p + (p2 - p) = p2 := by omega
        go_wp2_with fail
        go_roundg (ps.length + 1 - (i + 1))
        case measure => omega
        case rel =>
          obtain ⟨r3, t3⟩ := range_set (show 19 < 21 by omega) (.int .i64 (d + q)) R3.out T3.out
          obtain ⟨r4, t4⟩ := range_set (show 20 < 21 by omega) (.int .i64 p2) r3 t3
          rw [HZ.out (d + q) p2] at r4
          have ho4 : Only (fun k => k = w.heap.size) W3 ((W3.setCell ⟨w.heap.size, 19, none⟩ (.int .i64 (d + q))).setCell ⟨w.heap.size, 20, none⟩ (.int .i64 p2)) := ((Only.refl (fun k => k = w.heap.size) W3).setCell (p := ⟨w.heap.size, 19, none⟩) (.inl rfl) _).setCell (p := ⟨w.heap.size, 20, none⟩) (.inl rfl) _
          refine ⟨i + 1, d + q, by omega, rfl, by go_num, by omega, by omega, ?_, ?_, t4, B3.out.trans (ho4.toBelow B3.out.size (fun i hi => by omega)), Nat.lt_of_lt_of_le hg3 ho4.size⟩
          · intro h
            have := HQE.out (by omega)
            omega
          · rw [← HP2.out]
            exact r4
    · have e1 : decide (i ≤ ps.length) = false := by rw [decide_eq_false_iff_not]; exact hlt
      have hde := HE.out (by omega)
      have hpe : p = am := by rw [HP.out, hde]; exact share_all (by omega)
      subst hde hpe
      have hl : leftP d d = 0 := by rw [leftP, if_neg (by omega)]; omega
      have HL := hide hl
      clear hl
      go_wp2_with fail
      refine (alive12 wr).mono ?_
      rintro r W2 ⟨rfl, hb2⟩
      have R2 := hide (range_below R.out hb2 hgg)
      have B2 := hide (B1.out.trans (hb2.mono B1.out.size))
      have c19 := range_at R2.out 19 _ HN.out.d
      have c20 := range_at R2.out 20 _ HN.out.p
      clear hb2 R B1 T
      go_wp2_with (guard_target =~ wpList _ _ _ (Oper.mk _ (Op.load 72 _) _ _ _ _ :: _) _ _; refine wp_load_inst (by rfl) _ rfl w.heap.size rfl X HN.out.len (range_at R2.out) ?_)
      refine (left_inst X d p d p W2 HN.out hbq.2).mono ?_
      rintro r W3 ⟨rfl, hb3⟩
      rw [HL.out]
      have B3 := hide (B2.out.trans (hb3.mono B2.out.size))
      clear hb3 B2 R2
      go_wp2_with fail
      go_ret
      exact ⟨rfl, B3.out⟩
end Go.Proofs.Ytjhciobkofnjfaa
