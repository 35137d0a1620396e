/- complinelaw3.WireOneWay: the law's walk. -/
import Derived.Test.YtjhciobkofnjfaaAlive3
namespace Go.Proofs.Ytjhciobkofnjfaa
open Go.RowKit WM

theorem numP_ok {l : List UInt8} {n k : Nat} (h : dec 0 l = .ok n k) : numP l = (uz n, 0, l.drop k) := by simp [numP, h]
theorem numP_err {l : List UInt8} {e : Int} (h : dec 0 l = .err e) : numP l = (0, e, l) := by simp [numP, h]
theorem enc_back {l : List UInt8} {n k : Nat} (h : dec 0 l = .ok n k) : encI (uz n) ++ l.drop k = l := by
  obtain ⟨_, h2, _⟩ := enc_dec l 0 n k (by omega) h
  unfold encI
  rw [zz_uz, ← h2, List.take_append_drop]
theorem bstr_take (s : ByteArray) (bs l : List UInt8) (h : bs ++ l = s.data.toList) : s.extract 0 bs.length = bstr bs := by
  apply ByteArray.ext
  apply Array.ext'
  rw [bstr_data]
  simp [← h]

def OneRel (B g q : Nat) (all : List UInt8) (w : World) (s5 : Value) (wr : World) : Prop :=
  ∃ (i : Nat) (e : Int) (l bs : List UInt8) (o : Option Nat), s5 = .int .i64 i ∧ i ≤ 3000 ∧ RdS B wr q e l ∧ Wr B wr g 0 o bs ∧ ¬ foot g o q ∧ bs ++ l = all ∧ Below w.heap.size w wr

set_option maxHeartbeats 1600000 in
set_option maxRecDepth 100000 in
theorem oneway_law (s : ByteArray) (w : World) (hs : s.size ≤ 140737488355328) :
    Calls Try.prog 4 #[.string s] w fun r w' => r = .returned (.bool true) ∧ Below w.heap.size w w' := by
  by_cases hlong : 3000 < s.size
  · have hd : decide (3000 < (s.size : Int)) = true := by rw [decide_eq_true_iff]; omega
    go_enter Try.func4, Try.ntmps4
    go_wp2_with (go_at_call 15; refine (alive3 w).mono ?_; rintro r w1 ⟨rfl, hb⟩)
    go_ret
    exact ⟨rfl, by assumption⟩
  have hd : decide (3000 < (s.size : Int)) = false := by rw [decide_eq_false_iff_not]; omega
  go_enter Try.func4, Try.ntmps4
  go_wp2_with fail
  refine (newReader_any w.heap.size s w hs (Nat.le_refl _)).mono ?_
  rintro r W1 ⟨q, rfl, hq, hr1, b1⟩
  go_wp2_with fail
  refine (newWriter_any W1).mono ?_
  rintro r W2 ⟨rfl, hW2⟩
  have hw2 := Wr.new W1 w.heap.size b1.size
  have hr2 := hr1.alloc (.cells #[.int .i64 0, .slice none 0 0] 49)
  have b2 := b1.alloc b1.size (.cells #[.int .i64 0, .slice none 0 0] 49)
  have hne : ¬ foot W1.heap.size none q := by
    rintro (h | h)
    · have := hr1.lt; omega
    · cases h
  rw [hW2] at hw2 hr2 b2
  obtain ⟨g, hg⟩ : ∃ g, g = W1.heap.size := ⟨_, rfl⟩
  obtain ⟨B, hB⟩ : ∃ B, B = w.heap.size := ⟨_, rfl⟩
  rw [← hg] at hw2 hne ⊢
  rw [← hB] at hw2 hr2
  have HW := hide hw2
  have HR := hide hr2
  have HB := hide b2
  have HN := hide hne
  have HBB := hide hB
  clear hW2 hw2 hr2 b2 hne b1 hr1 hq hg hB
  go_wp2_with fail
  go_loopw [5] (fun s5 wr => OneRel B g q s.data.toList w s5 wr) (fun s5 _ => 3000 - (intOf s5).toNat)
  case atStart => exact ⟨0, 0, s.data.toList, [], none, rfl, by omega, HR.out, HW.out, HN.out, by simp, HB.out⟩
  case round =>
    clear HW HR HB HN
    obtain ⟨i, e, l, bs, o, rfl, hi, hr, hw, hne, heq, hbw⟩ := hrel
    have HW := hide hw
    have HR := hide hr
    have HN := hide hne
    have HE := hide heq
    have HB := hide hbw
    clear hw hr hne heq hbw
    by_cases h1 : i < 3000
    · have d1 : decide ((i : Int) < 3000) = true := by rw [decide_eq_true_iff]; omega
      go_wp2_with fail
      refine (rd_left_s B q e l wr HR.out).mono ?_
      rintro r w1 ⟨rfl, k1⟩
      have hr1 := HR.out.only k1 (fun h => h)
      have hw1 := HW.out.only k1 (fun _ _ h => h)
      have hb1 := HB.out.trans (only_none_below k1 HB.out.size)
      obtain ⟨c0, f0⟩ := rd_errCell hr1
      have HW1 := hide hw1
      have HR1 := hide hr1
      have HB1 := hide hb1
      clear k1 hw1 hr1 hb1 HW HR HB
      by_cases h2 : 0 < l.length
      · have d2 : decide (0 < (l.length : Int)) = true := by rw [decide_eq_true_iff]; omega
        by_cases h3 : e = 0
        · subst h3
          go_wp2_with (go_at_call 22; refine (wrong_at _ _ _ c0).mono ?_; rintro r w2 ⟨rfl, rfl⟩)
          refine (rd_num_ok B q l w1 HR1.out).mono ?_
          rintro r w2 ⟨rfl, hr2, k2⟩
          have hw2 := HW1.out.only k2 (fun k hk h => by unfold only1 at h; subst h; exact HN.out hk)
          have hbB : B ≤ w1.heap.size := by rw [HBB.out]; exact HB1.out.size
          have hb2 := HB1.out.trans (k2.toBelow HB1.out.size (fun k h => by unfold only1 at h; subst h; rw [← HBB.out]; exact HR1.out.base))
          cases hdec : dec 0 l with
          | ok n k =>
            rw [numP_ok hdec] at hr2 ⊢
            have hz := uz_bd (dec_bd hdec)
            have hback := enc_back hdec
            obtain ⟨c2, f2⟩ := rd_errCell hr2
            have HR2 := hide hr2
            have HW2 := hide hw2
            have HB2 := hide hb2
            have HBK := hide hback
            have HZ := hide hz
            clear hr2 hw2 hb2 hback k2 hdec hz
            go_wp2_with (go_at_call 22; refine (wrong_at _ _ _ c2).mono ?_; rintro r w3 ⟨rfl, rfl⟩)
            have hlen : bs.length + 10 * 1 ≤ 70368744177664 := by
              have h := congrArg List.length HE.out
              have h2 : s.data.toList.length = s.size := by rw [Array.length_toList]; rfl
              rw [List.length_append] at h
              omega
            refine (numl_new B g o bs [uz n] _ 1 w2 HW2.out rfl rfl (by unfold bd; simpa using HZ.out) hlen (by rw [HBB.out]; exact HB2.out.size)).mono ?_
            rintro r w3 ⟨rfl, o3, h3, k3, m3⟩
            have HR3 := hide (HR2.out.only k3 HN.out)
            have HN3 : Hid (¬ foot g o3 q) := by
              intro hf
              rcases foot_moved m3 q hf with hh | hh
              · exact HN.out hh
              · have := HR2.out.lt; omega
            have HB3 := hide (HB2.out.trans (k3.toBelow HB2.out.size (fun k h => by rw [← HBB.out]; exact HW2.out.base k h)))
            have HW3 := hide h3
            clear h3 k3 m3 hlen
            go_wp2
            go_roundw
            case rel =>
              refine ⟨i + 1, 0, l.drop k, _, o3, by go_num, h1, HR3.out, HW3.out, HN3, ?_, HB3.out⟩
              rw [← HE.out, List.append_assoc]
              simp only [encs, List.flatMap_cons, List.flatMap_nil, List.append_nil]
              rw [HBK.out]
            case measure => simp [intOf]; omega
          | err x =>
            rw [numP_err hdec] at hr2 ⊢
            obtain ⟨c2, f2⟩ := rd_errCell hr2
            have hx := dec_err _ _ _ hdec
            have hx0 : (x == 0) = false := by rw [beq_eq_false_iff_ne]; omega
            have HR2 := hide hr2
            have HW2 := hide hw2
            have HB2 := hide hb2
            clear hr2 hw2 hb2 k2 hdec hx
            go_wp2_with (go_at_call 22; refine (wrong_at _ _ _ c2).mono ?_; rintro r w3 ⟨rfl, rfl⟩)
            go_roundw
            case rel => exact ⟨i + 1, x, l, bs, o, by go_num, h1, HR2.out, HW2.out, HN.out, HE.out, HB2.out⟩
            case measure => simp [intOf]; omega
        · have d3 : (e == 0) = false := by rw [beq_eq_false_iff_ne]; exact h3
          go_wp2_with (go_at_call 22; refine (wrong_at _ _ _ c0).mono ?_; rintro r w2 ⟨rfl, rfl⟩)
          refine (bytes_ok B g o bs w1 HW1.out).mono ?_
          rintro r w3 ⟨rfl, rfl⟩
          obtain ⟨b, hbdef⟩ : ∃ b, b = bstr bs := ⟨_, rfl⟩
          have hbe : b = s.extract 0 bs.length := by rw [hbdef]; exact (bstr_take s bs l HE.out).symm
          have HBE := hide hbe
          rw [← hbdef]
          clear hbdef hbe
          go_wp2_with fail
          refine (alive3 _).mono ?_
          rintro r w4 ⟨rfl, b4⟩
          have HR4 := hide (HR1.out.only (below_only b4) (fun h => h))
          have HF := hide (HB1.out.trans (b4.mono HB1.out.size))
          clear b4
          have eq1 : (s.size : Int) - (l.length : Int) = (bs.length : Int) := by
            have := congrArg List.length HE.out
            have h2 : s.data.toList.length = s.size := by rw [Array.length_toList]; rfl
            rw [List.length_append] at this
            omega
          have EQ := hide eq1
          have hbz : bs.length ≤ s.size := by omega
          have hlz : l.length ≤ s.size := by omega
          clear eq1
          go_wp2_with fail
          refine (rd_left_s B q e l w4 HR4.out).mono ?_
          rintro r w5 ⟨rfl, k5⟩
          have HK5 := hide (only_none_below k5 HF.out.size)
          clear k5
          go_wp2_with fail
          go_ret
          have e5 : s.size - l.length = bs.length := by have := EQ.out; omega
          rw [e5, ← HBE.out]
          exact ⟨by simp, HF.out.trans HK5.out⟩
      · have d2 : decide (0 < (l.length : Int)) = false := by rw [decide_eq_false_iff_not]; omega
        go_wp2_with fail
        refine (bytes_ok B g o bs w1 HW1.out).mono ?_
        rintro r w3 ⟨rfl, rfl⟩
        obtain ⟨b, hbdef⟩ : ∃ b, b = bstr bs := ⟨_, rfl⟩
        have hbe : b = s.extract 0 bs.length := by rw [hbdef]; exact (bstr_take s bs l HE.out).symm
        have HBE := hide hbe
        rw [← hbdef]
        clear hbdef hbe
        go_wp2_with fail
        refine (alive3 _).mono ?_
        rintro r w4 ⟨rfl, b4⟩
        have HR4 := hide (HR1.out.only (below_only b4) (fun h => h))
        have HF := hide (HB1.out.trans (b4.mono HB1.out.size))
        clear b4
        have eq1 : (s.size : Int) - (l.length : Int) = (bs.length : Int) := by
          have := congrArg List.length HE.out
          have h2 : s.data.toList.length = s.size := by rw [Array.length_toList]; rfl
          rw [List.length_append] at this
          omega
        have EQ := hide eq1
        have hbz : bs.length ≤ s.size := by omega
        have hlz : l.length ≤ s.size := by omega
        clear eq1
        go_wp2_with fail
        refine (rd_left_s B q e l w4 HR4.out).mono ?_
        rintro r w5 ⟨rfl, k5⟩
        have HK5 := hide (only_none_below k5 HF.out.size)
        clear k5
        go_wp2_with fail
        go_ret
        have e5 : s.size - l.length = bs.length := by have := EQ.out; omega
        rw [e5, ← HBE.out]
        exact ⟨by simp, HF.out.trans HK5.out⟩
    · have d1 : decide ((i : Int) < 3000) = false := by rw [decide_eq_false_iff_not]; omega
      go_wp2_with fail
      refine (bytes_ok B g o bs wr HW.out).mono ?_
      rintro r w3 ⟨rfl, rfl⟩
      obtain ⟨b, hbdef⟩ : ∃ b, b = bstr bs := ⟨_, rfl⟩
      have hbe : b = s.extract 0 bs.length := by rw [hbdef]; exact (bstr_take s bs l HE.out).symm
      have HBE := hide hbe
      rw [← hbdef]
      clear hbdef hbe
      go_wp2_with fail
      refine (alive3 _).mono ?_
      rintro r w4 ⟨rfl, b4⟩
      have HR4 := hide (HR.out.only (below_only b4) (fun h => h))
      have HF := hide (HB.out.trans (b4.mono HB.out.size))
      clear b4
      have eq1 : (s.size : Int) - (l.length : Int) = (bs.length : Int) := by
        have := congrArg List.length HE.out
        have h2 : s.data.toList.length = s.size := by rw [Array.length_toList]; rfl
        rw [List.length_append] at this
        omega
      have EQ := hide eq1
      have hbz : bs.length ≤ s.size := by omega
      have hlz : l.length ≤ s.size := by omega
      clear eq1
      go_wp2_with fail
      refine (rd_left_s B q e l w4 HR4.out).mono ?_
      rintro r w5 ⟨rfl, k5⟩
      have HK5 := hide (only_none_below k5 HF.out.size)
      clear k5
      go_wp2_with fail
      go_ret
      have e5 : s.size - l.length = bs.length := by have := EQ.out; omega
      rw [e5, ← HBE.out]
      exact ⟨by simp, HF.out.trans HK5.out⟩
end Go.Proofs.Ytjhciobkofnjfaa
