/- complinelaw3.WireNone: the law's walk. -/
import Derived.Test.YtjhciobkofnjfaaRdEnd
import Derived.Test.YtjhciobkofnjfaaAlive3
namespace Go.Proofs.Ytjhciobkofnjfaa
open Go.RowKit WM

set_option maxHeartbeats 400000 in
set_option maxRecDepth 100000 in
theorem none_law (n : Int) (s : ByteArray) (w : World) :
    Calls Try.prog 9 #[.int .i64 n, .string s] w fun r w' => r = .returned (.bool true) ∧ Below w.heap.size w w' := by
  have hr : RdS w.heap.size (w.alloc (.cells #[.int .i64 0, .string ⟨#[]⟩, .int .i64 0] 40)) w.heap.size 0 [] :=
    ⟨⟨#[]⟩, 0, ⟨Nat.le_refl _, blk_new w _, by decide⟩, rfl, by decide⟩
  have hb : Below w.heap.size w (w.alloc (.cells #[.int .i64 0, .string ⟨#[]⟩, .int .i64 0] 40)) := (Below.refl _ _).alloc (Nat.le_refl _) _
  have hr2 := ((hr.alloc (.cells #[.int .i64 n] 3)).alloc (.cells #[.string s] 9)).alloc (.cells #[.bool true] 4)
  have hb2 := ((hb.alloc (by simp) (.cells #[.int .i64 n] 3)).alloc (by simp; omega) (.cells #[.string s] 9)).alloc (by simp; omega) (.cells #[.bool true] 4)
  have HR := hide hr2
  have HB := hide hb2
  clear hr hb hr2 hb2
  have R1 : Reads ((w.alloc (.cells #[.int .i64 0, .string ⟨#[]⟩, .int .i64 0] 40)).alloc (.cells #[.int .i64 n] 3)) (some ⟨w.heap.size + 1, 0, none⟩) 1 (ints [n]) := by
    have h := reads_new (w.alloc (.cells #[.int .i64 0, .string ⟨#[]⟩, .int .i64 0] 40)) 3 #[.int .i64 n]
    rwa [show (w.alloc (.cells #[.int .i64 0, .string ⟨#[]⟩, .int .i64 0] 40)).heap.size = w.heap.size + 1 by simp] at h
  have R2 : Reads (((w.alloc (.cells #[.int .i64 0, .string ⟨#[]⟩, .int .i64 0] 40)).alloc (.cells #[.int .i64 n] 3)).alloc (.cells #[.string s] 9)) (some ⟨w.heap.size + 1 + 1, 0, none⟩) 1 (strs [s]) := by
    have h := reads_new ((w.alloc (.cells #[.int .i64 0, .string ⟨#[]⟩, .int .i64 0] 40)).alloc (.cells #[.int .i64 n] 3)) 9 #[.string s]
    rwa [show ((w.alloc (.cells #[.int .i64 0, .string ⟨#[]⟩, .int .i64 0] 40)).alloc (.cells #[.int .i64 n] 3)).heap.size = w.heap.size + 1 + 1 by simp] at h
  have R3 : Reads ((((w.alloc (.cells #[.int .i64 0, .string ⟨#[]⟩, .int .i64 0] 40)).alloc (.cells #[.int .i64 n] 3)).alloc (.cells #[.string s] 9)).alloc (.cells #[.bool true] 4)) (some ⟨w.heap.size + 1 + 1 + 1, 0, none⟩) 1 (bools [true]) := by
    have h := reads_new (((w.alloc (.cells #[.int .i64 0, .string ⟨#[]⟩, .int .i64 0] 40)).alloc (.cells #[.int .i64 n] 3)).alloc (.cells #[.string s] 9)) 4 #[.bool true]
    rwa [show (((w.alloc (.cells #[.int .i64 0, .string ⟨#[]⟩, .int .i64 0] 40)).alloc (.cells #[.int .i64 n] 3)).alloc (.cells #[.string s] 9)).heap.size = w.heap.size + 1 + 1 + 1 by simp] at h
  have HR1 := hide R1
  have HR2' := hide R2
  have HR3' := hide R3
  clear R1 R2 R3
  go_enter Try.func9, Try.ntmps9
  go_wp2_with fail
  refine (numl_nil _ 1 1 [n] _ HR1.out).mono ?_
  rintro r w1 ⟨rfl, rfl⟩
  go_wp2_with fail
  refine (text_nil _ 1 1 [s] _ HR2'.out).mono ?_
  rintro r w1 ⟨rfl, rfl⟩
  go_wp2_with fail
  refine (bool_nil _ 1 1 [true] _ HR3'.out).mono ?_
  rintro r w1 ⟨rfl, rfl⟩
  go_wp2_with fail
  refine (bytes_nil _).mono ?_
  rintro r w1 ⟨rfl, rfl⟩
  go_wp2_with fail
  refine (alive3 _).mono ?_
  rintro r w2 ⟨rfl, b2⟩
  have HR2 := hide (HR.out.only (below_only b2) (fun h => h))
  have HB2 := hide (HB.out.trans (b2.mono HB.out.size))
  clear b2 HR HB
  have hs0 : (bstr []).toList = [] := by kernel_rfl
  go_wp2_with (first | (go_at_call 39; refine (count_nil _ _).mono ?_; rintro r w3 ⟨rfl, rfl⟩) | (go_at_call 37; refine (rtext_nil _).mono ?_; rintro r w3 ⟨rfl, rfl⟩) | (go_at_call 38; refine (rbool_nil _).mono ?_; rintro r w3 ⟨rfl, rfl⟩))
  refine (rnum_nil _).mono ?_
  rintro r w3 ⟨rfl, rfl⟩
  go_wp2_with (first | (go_at_call 39; refine (count_nil _ _).mono ?_; rintro r w3 ⟨rfl, rfl⟩) | (go_at_call 37; refine (rtext_nil _).mono ?_; rintro r w3 ⟨rfl, rfl⟩) | (go_at_call 38; refine (rbool_nil _).mono ?_; rintro r w3 ⟨rfl, rfl⟩))
  refine (left_nil _).mono ?_
  rintro r w3 ⟨rfl, rfl⟩
  go_wp2_with (first | (go_at_call 37; refine (rtext_nil _).mono ?_; rintro r w3 ⟨rfl, rfl⟩) | (go_at_call 38; refine (rbool_nil _).mono ?_; rintro r w3 ⟨rfl, rfl⟩))
  refine (end_nil _).mono ?_
  rintro r w3 ⟨rfl, rfl⟩
  go_wp2_with fail
  refine (rd_end _ _ _ _ _ HR2.out).mono ?_
  rintro r w3 ⟨rfl, k3⟩
  rw [show endP 0 [] = 0 from rfl]
  have HR3 := hide (HR2.out.only k3 (fun h => h))
  have HB3 := hide (HB2.out.trans (only_none_below k3 HB2.out.size))
  clear k3
  go_wp2_with fail
  refine (rd_left_s _ _ _ _ _ HR3.out).mono ?_
  rintro r w4 ⟨rfl, k4⟩
  have HR4 := hide (HR3.out.only k4 (fun h => h))
  have HB4 := hide (HB3.out.trans (only_none_below k4 HB3.out.size))
  clear k4
  go_wp2_with fail
  refine (rd_num_ok _ _ _ _ HR4.out).mono ?_
  rintro r w5 ⟨rfl, h5, k5⟩
  rw [numP_nil] at h5
  rw [numP_nil]
  have c5 := (rd_errCell h5).1
  have HB5 := hide (HB4.out.trans (k5.toBelow HB4.out.size (fun k h => by unfold only1 at h; omega)))
  clear h5 k5
  go_wp2_with fail
  refine (wrong_at _ _ _ c5).mono ?_
  rintro r w6 ⟨rfl, rfl⟩
  go_wp2_with fail
  go_ret
  exact ⟨rfl, HB5.out⟩
end Go.Proofs.Ytjhciobkofnjfaa
