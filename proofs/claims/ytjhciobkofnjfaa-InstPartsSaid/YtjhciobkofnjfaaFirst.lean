/- complinelaw3.WireFirst: the law's walk. -/
import Derived.Test.YtjhciobkofnjfaaRdEnd
import Derived.Test.YtjhciobkofnjfaaAlive3
namespace Go.Proofs.Ytjhciobkofnjfaa
open Go.RowKit WM

/-- The first error stays. -/
def firstE (a b : Int) : Int := if a = 0 then b else a

theorem wr_fail (B g : Nat) (e x : Int) (o : Option Nat) (bs : List UInt8) (w : World) (h : Wr B w g e o bs) :
    Calls Try.prog 33 #[.pointer (some ⟨g, 0, none⟩), .int .i64 x] w fun r w' => r = .returned (.tuple #[]) ∧ Wr B w' g (firstE e x) o bs ∧ Only (only1 g) w w' := by
  obtain ⟨c0, f0⟩ := h.errCell
  by_cases he : e = 0
  · subst he
    refine (fail_set _ x w c0 f0).mono ?_
    rintro r w' ⟨rfl, rfl⟩
    exact ⟨rfl, h.setErr, (Only.refl (only1 g) w).setCell (p := ⟨g, 0, none⟩) (.inl rfl) _⟩
  · refine (fail_kept _ e x w c0 (by rw [beq_eq_false_iff_ne]; exact he)).mono ?_
    rintro r w' ⟨rfl, rfl⟩
    refine ⟨rfl, ?_, Only.refl _ _⟩
    rw [firstE, if_neg he]
    exact h
theorem RdS.setErr {B g : Nat} {w : World} {e x : Int} {l : List UInt8} (h : RdS B w g e l) : RdS B (w.setCell ⟨g, 0, none⟩ (.int .i64 x)) g x l := by
  obtain ⟨s, at_, hr, hl, hz⟩ := h
  exact ⟨s, at_, hr.setErr, hl, hz⟩
theorem rd_fail (B g : Nat) (e x : Int) (l : List UInt8) (w : World) (h : RdS B w g e l) :
    Calls Try.prog 33 #[.pointer (some ⟨g, 0, none⟩), .int .i64 x] w fun r w' => r = .returned (.tuple #[]) ∧ RdS B w' g (firstE e x) l ∧ Only (only1 g) w w' := by
  obtain ⟨c0, f0⟩ := rd_errCell h
  by_cases he : e = 0
  · subst he
    refine (fail_set _ x w c0 f0).mono ?_
    rintro r w' ⟨rfl, rfl⟩
    exact ⟨rfl, h.setErr, (Only.refl (only1 g) w).setCell (p := ⟨g, 0, none⟩) (.inl rfl) _⟩
  · refine (fail_kept _ e x w c0 (by rw [beq_eq_false_iff_ne]; exact he)).mono ?_
    rintro r w' ⟨rfl, rfl⟩
    refine ⟨rfl, ?_, Only.refl _ _⟩
    rw [firstE, if_neg he]
    exact h
theorem rd_num_off (g : Nat) (e : Int) (w : World) (c0 : w.cell? ⟨g, 0, none⟩ = some (.int .i64 e)) (he : (e != 0) = true) :
    Calls Try.prog 23 #[.pointer (some ⟨g, 0, none⟩)] w fun r w' => r = .returned (.int .i64 0) ∧ w = w' := by
  go_enter Try.func23, Try.ntmps23
  go_wp2_with (go_at_call 56; refine (off_yes _ e _ c0 he).mono ?_; rintro r w2 ⟨rfl, rfl⟩)
  go_ret
  exact ⟨rfl, rfl⟩

/-- A writer and a reader side by side, from block B on. -/
def Both (B : Nat) (w0 W : World) (g q : Nat) (o : Option Nat) (ew er : Int) (bs l : List UInt8) : Prop :=
  Wr B W g ew o bs ∧ RdS B W q er l ∧ ¬ foot g o q ∧ Below B w0 W ∧ B ≤ w0.heap.size ∧ B ≤ W.heap.size

theorem Both.wr {B : Nat} {w0 W W' : World} {g q : Nat} {o o' : Option Nat} {ew er ew' : Int} {bs bs' l : List UInt8} (h : Both B w0 W g q o ew er bs l) (hw : Wr B W' g ew' o' bs') (k : Only (foot g o) W W') (m : moved W o o') :
    Both B w0 W' g q o' ew' er bs' l := by
  obtain ⟨h1, h2, h3, h4, h5, h6⟩ := h
  refine ⟨hw, h2.only k h3, ?_, h4.trans (k.toBelow h6 h1.base), h5, Nat.le_trans h6 k.size⟩
  intro hf
  rcases foot_moved m q hf with hh | hh
  · exact h3 hh
  · have := h2.lt; omega
theorem Both.rd {B : Nat} {w0 W W' : World} {g q : Nat} {o : Option Nat} {ew er er' : Int} {bs l l' : List UInt8} (h : Both B w0 W g q o ew er bs l) (hr : RdS B W' q er' l') (k : Only (only1 q) W W') :
    Both B w0 W' g q o ew er' bs l' := by
  obtain ⟨h1, h2, h3, h4, h5, h6⟩ := h
  exact ⟨h1.only k (fun _ hi h => by unfold only1 at h; subst h; exact h3 hi), hr, h3, h4.trans (k.toBelow h6 (fun _ hi => by unfold only1 at hi; subst hi; exact h2.base)), h5, Nat.le_trans h6 k.size⟩
theorem Both.wr1 {B : Nat} {w0 W W' : World} {g q : Nat} {o : Option Nat} {ew er ew' : Int} {bs l : List UInt8} (h : Both B w0 W g q o ew er bs l) (hw : Wr B W' g ew' o bs) (k : Only (only1 g) W W') :
    Both B w0 W' g q o ew' er bs l := h.wr hw (k.mono (fun _ hi => .inl hi)) (moved.refl _ _)
theorem Both.none {B : Nat} {w0 W W' : World} {g q : Nat} {o : Option Nat} {ew er : Int} {bs l : List UInt8} (h : Both B w0 W g q o ew er bs l) (k : Only none_ W W') :
    Both B w0 W' g q o ew er bs l := h.rd (h.2.1.only k (fun h => h)) (k.mono (fun _ h => h.elim))

theorem first_read : numP [2, 2, 65] = (1, 0, [2, 65]) := by
  have h : dec 0 [2, 2, 65] = .ok 2 1 := by rfl
  simp [numP, h, uz]

theorem bstr_ne {l : List UInt8} (h : 0 < l.length) : (bstr l).toList.isEmpty = false := by
  rw [ByteArray.toList_eq, bstr_data]
  cases l with
  | nil => simp at h
  | cons a l => rfl

set_option maxHeartbeats 1000000 in
set_option maxRecDepth 100000 in
theorem first_law (e f n : Int) (s : ByteArray) (w : World) (hn : bd n) (hs : s.size ≤ 140737488355328) :
    Calls Try.prog 6 #[.int .i64 e, .int .i64 f, .int .i64 n, .string s] w fun r w' => r = .returned (.bool true) ∧ Below w.heap.size w w' := by
  have HN := hide hn
  clear hn
  go_enter Try.func6, Try.ntmps6
  go_wp2_with fail
  refine (newWriter_any w).mono ?_
  rintro r W1 ⟨rfl, hW1⟩
  have h1 := Wr.new w w.heap.size (Nat.le_refl _)
  have b1 : Below w.heap.size w (w.alloc (.cells #[.int .i64 0, .slice none 0 0] 49)) := (Below.refl _ _).alloc (Nat.le_refl _) _
  have z1 : W1.heap.size = w.heap.size + 1 := by rw [← hW1]; simp
  rw [hW1] at h1 b1
  have H1 := hide h1
  have B1 := hide b1
  have Z1 := hide z1
  clear hW1 h1 b1 z1
  go_wp2_with fail
  refine (newReader_any w.heap.size ⟨#[2, 2, 65]⟩ W1 (by decide) (by rw [Z1.out]; omega)).mono ?_
  rintro r W2 ⟨q, rfl, hq, h2, b2⟩
  have hb : Both w.heap.size w W2 w.heap.size q none 0 0 [] [2, 2, 65] := by
    refine ⟨H1.out.only (below_only b2) (fun _ _ h => h), h2, ?_, B1.out.trans (b2.mono B1.out.size), Nat.le_refl _, by have := b2.size; rw [Z1.out] at this; omega⟩
    rintro (h | h)
    · rw [Z1.out] at hq; omega
    · cases h
  obtain ⟨B, hB⟩ : ∃ B, B = w.heap.size := ⟨_, rfl⟩
  rw [← hB] at hb ⊢
  have HB := hide hb
  have HBB := hide hB
  clear H1 B1 Z1 h2 b2 hb hB hq
  by_cases hlong : 1000 < s.size
  · have hd : decide (1000 < (s.size : Int)) = true := by rw [decide_eq_true_iff]; omega
    go_wp2_with (go_at_call 15; refine (alive3 W2).mono ?_; rintro r w1 ⟨rfl, hb⟩)
    go_ret
    exact ⟨rfl, by rename_i hb; rw [← HBB.out]; exact HB.out.2.2.2.1.trans (hb.mono HB.out.2.2.2.2.2)⟩
  have hd : decide (1000 < (s.size : Int)) = false := by rw [decide_eq_false_iff_not]; omega
  go_wp2_with fail
  refine (numl_new B B none [] [1] _ 1 W2 HB.out.1 rfl rfl (by unfold bd; decide) (by decide) HB.out.2.2.2.2.2).mono ?_
  rintro r W3 ⟨rfl, o3, h3, k3, m3⟩
  have H3 := hide (HB.out.wr h3 k3 m3)
  clear h3 k3 m3 HB
  go_wp2_with fail
  refine (wr_fail B B 0 e o3 _ W3 H3.out.1).mono ?_
  rintro r W4 ⟨rfl, h4, k4⟩
  have H4 := hide (H3.out.wr1 h4 k4)
  clear h4 k4 H3
  go_wp2_with fail
  refine (wr_fail B B _ f o3 _ W4 H4.out.1).mono ?_
  rintro r W5 ⟨rfl, h5, k5⟩
  have H5 := hide (H4.out.wr1 h5 k5)
  clear h5 k5 H4
  go_wp2_with fail
  refine (rd_fail B q 0 e _ W5 H5.out.2.1).mono ?_
  rintro r W6 ⟨rfl, h6, k6⟩
  have H6 := hide (H5.out.rd h6 k6)
  clear h6 k6 H5
  go_wp2_with fail
  refine (rd_fail B q _ f _ W6 H6.out.2.1).mono ?_
  rintro r W7 ⟨rfl, h7, k7⟩
  have H7 := hide (H6.out.rd h7 k7)
  clear h7 k7 H6
  have ex : firstE (firstE 0 e) f = firstE e f := by simp [firstE]
  rw [ex] at H7
  clear ex
  by_cases he : e = 0
  · subst he
    by_cases hf : f = 0
    · subst hf
      rw [show firstE 0 0 = 0 from rfl] at H7
      go_wp2_with fail
      refine (numl_new B B o3 _ [n] _ 1 W7 H7.out.1 rfl rfl (by simpa using HN.out) (by simp [encs]; have := encI_len (v := 1) (by unfold bd; decide); omega) H7.out.2.2.2.2.2).mono ?_
      rintro r W8 ⟨rfl, o8, h8, k8, m8⟩
      have H8 := hide (H7.out.wr h8 k8 m8)
      clear h8 k8 m8 H7
      have hbl : ([] ++ encs [1] ++ encs [n]).length ≤ 20 := by
        have h1 := encI_len (v := 1) (by unfold bd; decide)
        have h2 := encI_len HN.out
        simp only [encs, List.flatMap_cons, List.flatMap_nil, List.append_nil, List.nil_append, List.length_append]
        omega
      have hbp : 0 < ([] ++ encs [1] ++ encs [n]).length := by
        have h1 := enc_length_pos (zz 1)
        simp only [encs, List.flatMap_cons, List.flatMap_nil, List.append_nil, List.nil_append, List.length_append, encI]
        omega
      obtain ⟨bs, hbs⟩ : ∃ bs, bs = [] ++ encs [1] ++ encs [n] := ⟨_, rfl⟩
      rw [← hbs] at H8 hbl hbp
      clear hbs
      go_wp2_with fail
      have ht : putTexts [s] (0, bs) = (0, bs ++ encT s) := by simp [putTexts, hlong]
      refine (text_new B B o8 bs [s] _ 1 W8 H8.out.1 rfl rfl (by omega) H8.out.2.2.2.2.2).mono ?_
      rw [ht]
      rintro r W9 ⟨rfl, o9, h9, k9, m9⟩
      have H9 := hide (H8.out.wr h9 k9 m9)
      have hbp2 : 0 < (bs ++ encT s).length := by rw [List.length_append]; omega
      clear h9 k9 m9 H8 ht
      go_wp2_with fail
      refine (bytes_ok B B o9 _ W9 H9.out.1).mono ?_
      rintro r W10 ⟨rfl, rfl⟩
      obtain ⟨b, hb⟩ : ∃ b, b = bstr (bs ++ encT s) := ⟨_, rfl⟩
      have hbne : b.toList.isEmpty = false := by rw [hb]; exact bstr_ne hbp2
      rw [← hb]
      clear hb hbp2 hbp hbl
      go_wp2_with fail
      refine (rd_num_ok B q [2, 2, 65] W9 H9.out.2.1).mono ?_
      rintro r W10 ⟨rfl, h10, k10⟩
      have H10 := hide (H9.out.rd h10 k10)
      clear h10 k10 H9
      rw [first_read] at H10
      rw [first_read]
      have cw := H10.out.1.errCell.1
      have cr := (rd_errCell H10.out.2.1).1
      go_wp2_with fail
      refine (wrong_at _ _ _ cw).mono ?_
      rintro r w2 ⟨rfl, rfl⟩
      go_wp2_with fail
      refine (wrong_at _ _ _ cr).mono ?_
      rintro r w2 ⟨rfl, rfl⟩
      go_wp2_with fail
      refine (alive3 W10).mono ?_
      rintro r W11 ⟨rfl, b11⟩
      have H11 := hide (H10.out.none (below_only b11))
      clear b11 H10 cw cr
      go_wp2_with fail
      refine (rd_left_s B q _ _ W11 H11.out.2.1).mono ?_
      rintro r W12 ⟨rfl, k12⟩
      have H12 := hide (H11.out.none k12)
      clear k12 H11
      go_wp2_with fail
      go_ret
      exact ⟨rfl, by rw [← HBB.out]; exact H12.out.2.2.2.1⟩
    · rw [show firstE 0 f = f from if_pos rfl] at H7
      have hX : (f != 0) = true := by rw [bne_iff_ne]; exact hf
      have hX0 : (f == 0) = false := by rw [beq_eq_false_iff_ne]; exact hf
      have cw := H7.out.1.errCell.1
      have cr := (rd_errCell H7.out.2.1).1
      go_wp2_with fail
      refine (numl_err B f _ 1 1 [n] (W7.alloc (.cells #[.int .i64 n] 3)) hX ((H7.out.1.alloc _).errCell.1) (reads_new W7 3 #[.int .i64 n])).mono ?_
      rintro r W8 ⟨rfl, rfl⟩
      have H8 := hide (H7.out.none ((Only.refl none_ W7).alloc (.cells #[.int .i64 n] 3)))
      obtain ⟨W8, hW8⟩ : ∃ W8, W8 = W7.alloc (.cells #[.int .i64 n] 3) := ⟨_, rfl⟩
      rw [← hW8] at H8 ⊢
      clear hW8 H7 cw cr
      go_wp2_with fail
      refine (text_err B f _ 1 1 [s] (W8.alloc (.cells #[.string s] 9)) hX ((H8.out.1.alloc _).errCell.1) (reads_new W8 9 #[.string s])).mono ?_
      rintro r W9 ⟨rfl, rfl⟩
      have H9 := hide (H8.out.none ((Only.refl none_ W8).alloc (.cells #[.string s] 9)))
      obtain ⟨W9, hW9⟩ : ∃ W9, W9 = W8.alloc (.cells #[.string s] 9) := ⟨_, rfl⟩
      rw [← hW9] at H9 ⊢
      clear hW9 H8
      have cw := H9.out.1.errCell.1
      have cr := (rd_errCell H9.out.2.1).1
      have hs0 : (bstr []).toList = [] := by kernel_rfl
      go_wp2_with fail
      refine (bytes_err B f W9 hX cw).mono ?_
      rintro r W10 ⟨rfl, rfl⟩
      go_wp2_with fail
      refine (rd_num_off q f W9 cr hX).mono ?_
      rintro r W10 ⟨rfl, rfl⟩
      go_wp2_with fail
      refine (wrong_at _ _ _ cw).mono ?_
      rintro r w2 ⟨rfl, rfl⟩
      go_wp2_with fail
      refine (wrong_at _ _ _ cr).mono ?_
      rintro r w2 ⟨rfl, rfl⟩
      go_wp2_with fail
      refine (alive3 W9).mono ?_
      rintro r W11 ⟨rfl, b11⟩
      have H11 := hide (H9.out.none (below_only b11))
      clear b11 H9 cw cr
      go_wp2_with fail
      refine (rd_left_s B q _ _ W11 H11.out.2.1).mono ?_
      rintro r W12 ⟨rfl, k12⟩
      have H12 := hide (H11.out.none k12)
      clear k12 H11
      go_wp2_with fail
      refine (rd_end B q _ _ W12 H12.out.2.1).mono ?_
      rintro r W13 ⟨rfl, k13⟩
      have H13 := hide (H12.out.none k13)
      clear k13 H12
      have hend : endP f [2, 2, 65] = f := by rw [endP, if_pos hf]
      rw [hend]
      clear hend
      go_wp2_with fail
      go_ret
      exact ⟨rfl, by rw [← HBB.out]; exact H13.out.2.2.2.1⟩
  · rw [show firstE e f = e from if_neg he] at H7
    have hX : (e != 0) = true := by rw [bne_iff_ne]; exact he
    have hX0 : (e == 0) = false := by rw [beq_eq_false_iff_ne]; exact he
    have cw := H7.out.1.errCell.1
    have cr := (rd_errCell H7.out.2.1).1
    go_wp2_with fail
    refine (numl_err B e _ 1 1 [n] (W7.alloc (.cells #[.int .i64 n] 3)) hX ((H7.out.1.alloc _).errCell.1) (reads_new W7 3 #[.int .i64 n])).mono ?_
    rintro r W8 ⟨rfl, rfl⟩
    have H8 := hide (H7.out.none ((Only.refl none_ W7).alloc (.cells #[.int .i64 n] 3)))
    obtain ⟨W8, hW8⟩ : ∃ W8, W8 = W7.alloc (.cells #[.int .i64 n] 3) := ⟨_, rfl⟩
    rw [← hW8] at H8 ⊢
    clear hW8 H7 cw cr
    go_wp2_with fail
    refine (text_err B e _ 1 1 [s] (W8.alloc (.cells #[.string s] 9)) hX ((H8.out.1.alloc _).errCell.1) (reads_new W8 9 #[.string s])).mono ?_
    rintro r W9 ⟨rfl, rfl⟩
    have H9 := hide (H8.out.none ((Only.refl none_ W8).alloc (.cells #[.string s] 9)))
    obtain ⟨W9, hW9⟩ : ∃ W9, W9 = W8.alloc (.cells #[.string s] 9) := ⟨_, rfl⟩
    rw [← hW9] at H9 ⊢
    clear hW9 H8
    have cw := H9.out.1.errCell.1
    have cr := (rd_errCell H9.out.2.1).1
    have hs0 : (bstr []).toList = [] := by kernel_rfl
    go_wp2_with fail
    refine (bytes_err B e W9 hX cw).mono ?_
    rintro r W10 ⟨rfl, rfl⟩
    go_wp2_with fail
    refine (rd_num_off q e W9 cr hX).mono ?_
    rintro r W10 ⟨rfl, rfl⟩
    go_wp2_with fail
    refine (wrong_at _ _ _ cw).mono ?_
    rintro r w2 ⟨rfl, rfl⟩
    go_wp2_with fail
    refine (wrong_at _ _ _ cr).mono ?_
    rintro r w2 ⟨rfl, rfl⟩
    go_wp2_with fail
    refine (alive3 W9).mono ?_
    rintro r W11 ⟨rfl, b11⟩
    have H11 := hide (H9.out.none (below_only b11))
    clear b11 H9 cw cr
    go_wp2_with fail
    refine (rd_left_s B q _ _ W11 H11.out.2.1).mono ?_
    rintro r W12 ⟨rfl, k12⟩
    have H12 := hide (H11.out.none k12)
    clear k12 H11
    go_wp2_with fail
    refine (rd_end B q _ _ W12 H12.out.2.1).mono ?_
    rintro r W13 ⟨rfl, k13⟩
    have H13 := hide (H12.out.none k13)
    clear k13 H12
    have hend : endP e [2, 2, 65] = e := by rw [endP, if_pos he]
    rw [hend]
    clear hend
    go_wp2_with fail
    go_ret
    exact ⟨rfl, by rw [← HBB.out]; exact H13.out.2.2.2.1⟩
end Go.Proofs.Ytjhciobkofnjfaa
