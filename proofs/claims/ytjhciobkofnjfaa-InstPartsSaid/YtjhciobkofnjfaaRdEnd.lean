/- wire.Reader: End; what a nil one answers; the zero one. -/
import Derived.Test.YtjhciobkofnjfaaRdNew
namespace Go.Proofs.Ytjhciobkofnjfaa
open Go.RowKit WM

/-- What End answers. -/
def endP (e : Int) (l : List UInt8) : Int := if e ≠ 0 then e else if l = [] then 0 else 4

theorem rd_end (B g : Nat) (e : Int) (l : List UInt8) (w : World) (h : RdS B w g e l) :
    Calls Try.prog 36 #[.pointer (some ⟨g, 0, none⟩)] w fun r w' => r = .returned (.int .i64 (endP e l)) ∧ Only none_ w w' := by
  obtain ⟨c0, f0⟩ := rd_errCell h
  by_cases he : e = 0
  · subst he
    have H := hide h
    clear h
    go_enter Try.func36, Try.ntmps36
    go_wp2_with (go_at_call 22; refine (wrong_at _ _ _ c0).mono ?_; rintro r w2 ⟨rfl, rfl⟩)
    refine (rd_left_s B g 0 l w H.out).mono ?_
    rintro r w1 ⟨rfl, k1⟩
    have HK := hide k1
    clear k1
    by_cases hl : l = []
    · subst hl
      go_wp2
      go_ret
      exact ⟨rfl, HK.out⟩
    · have h0 : 0 < l.length := List.length_pos_iff.2 hl
      have d : decide (0 < (l.length : Int)) = true := by rw [decide_eq_true_iff]; omega
      have HL := hide hl
      clear hl
      go_wp2
      go_ret
      exact ⟨by simp [endP, HL.out], HK.out⟩
  · have hb : (e != 0) = true := by rw [bne_iff_ne]; exact he
    go_enter Try.func36, Try.ntmps36
    go_wp2_with (go_at_call 22; refine (wrong_at _ _ _ c0).mono ?_; rintro r w2 ⟨rfl, rfl⟩)
    go_ret
    exact ⟨by simp [endP, he], Only.refl _ _⟩

theorem end_nil (w : World) :
    Calls Try.prog 36 #[.pointer none] w fun r w' => r = .returned (.int .i64 1) ∧ w = w' := by
  go_enter Try.func36, Try.ntmps36
  go_wp2
  go_ret
  exact ⟨rfl, rfl⟩
theorem rnum_nil (w : World) :
    Calls Try.prog 23 #[.pointer none] w fun r w' => r = .returned (.int .i64 0) ∧ w = w' := by
  go_enter Try.func23, Try.ntmps23
  go_wp2_with (go_at_call 56; refine (off_nil _).mono ?_; rintro r w2 ⟨rfl, rfl⟩)
  go_ret
  exact ⟨rfl, rfl⟩
theorem count_nil (n : Int) (w : World) :
    Calls Try.prog 39 #[.pointer none, .int .i64 n] w fun r w' => r = .returned (.int .i64 0) ∧ w = w' := by
  go_enter Try.func39, Try.ntmps39
  go_wp2_with (go_at_call 56; refine (off_nil _).mono ?_; rintro r w2 ⟨rfl, rfl⟩)
  go_ret
  exact ⟨rfl, rfl⟩
theorem rtext_nil (w : World) :
    Calls Try.prog 37 #[.pointer none] w fun r w' => r = .returned (.string ⟨#[]⟩) ∧ w = w' := by
  go_enter Try.func37, Try.ntmps37
  go_wp2_with (go_at_call 56; refine (off_nil _).mono ?_; rintro r w2 ⟨rfl, rfl⟩)
  go_ret
  exact ⟨rfl, rfl⟩
theorem rbool_nil (w : World) :
    Calls Try.prog 38 #[.pointer none] w fun r w' => r = .returned (.bool false) ∧ w = w' := by
  go_enter Try.func38, Try.ntmps38
  go_wp2_with (go_at_call 56; refine (off_nil _).mono ?_; rintro r w2 ⟨rfl, rfl⟩)
  go_ret
  exact ⟨rfl, rfl⟩

theorem numP_nil : numP [] = (0, 5, []) := rfl
end Go.Proofs.Ytjhciobkofnjfaa
