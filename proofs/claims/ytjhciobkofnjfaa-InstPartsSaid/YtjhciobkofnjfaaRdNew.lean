/- wire.NewReader, Left, End, Wrong. -/
import Derived.Test.YtjhciobkofnjfaaRd
namespace Go.Proofs.Ytjhciobkofnjfaa
open Go.RowKit WM

theorem clone_any (s : ByteArray) (w : World) (hs : s.size ≤ 140737488355328) :
    Calls Try.prog 55 #[.string s] w fun r w' => r = .returned (.string s) ∧ Below w.heap.size w w' := by
  go_enter Try.func55, Try.ntmps55
  go_wp2_with (go_at_call 67; refine (Try.stringslite_Clone s w (by omega)).mono ?_; rintro r w1 ⟨rfl, hb⟩)
  go_ret
  exact ⟨rfl, by assumption⟩

def NewRd (B : Nat) (w : World) (s : ByteArray) (r : Ending) (w' : World) : Prop :=
  ∃ g, r = .returned (.pointer (some ⟨g, 0, none⟩)) ∧ w.heap.size ≤ g ∧ RdS B w' g 0 s.data.toList ∧ Below w.heap.size w w'

theorem newReader_any (B : Nat) (s : ByteArray) (w : World) (hs : s.size ≤ 140737488355328) (hB : B ≤ w.heap.size) :
    Calls Try.prog 20 #[.string s] w (NewRd B w s) := by
  go_enter Try.func20, Try.ntmps20
  go_wp2_with fail
  refine (clone_any s w hs).mono ?_
  rintro r w1 ⟨rfl, hb⟩
  have HB := hide hb
  clear hb
  go_wp2
  go_ret
  have hz := HB.out.size
  refine ⟨w1.heap.size, rfl, hz, ⟨s, 0, ⟨by omega, ?_, by omega⟩, by simp, hs⟩, HB.out.alloc hz _⟩
  have := blk_new w1 (.cells #[.int .i64 0, .string s, .int .i64 0] 40)
  simpa using this

theorem left_any (g : Nat) (s : ByteArray) (at_ : Nat) (w : World) (hat : at_ ≤ s.size) (hs : s.size ≤ 140737488355328)
    (hc1 : w.cell? ⟨g, 1, none⟩ = some (.string s)) (hc2 : w.cell? ⟨g, 2, none⟩ = some (.int .i64 at_)) :
    Calls Try.prog 21 #[.pointer (some ⟨g, 0, none⟩)] w fun r w' => r = .returned (.int .i64 ((s.size : Int) - (at_ : Int))) ∧ ∃ q, w' = w.drewN q := by
  go_enter Try.func21, Try.ntmps21
  go_wp2_with fail
  go_quiet (fail)
  go_wp2
  go_ret
  exact ⟨rfl, _, rfl⟩

theorem left_nil (w : World) :
    Calls Try.prog 21 #[.pointer none] w fun r w' => r = .returned (.int .i64 0) ∧ w = w' := by
  go_enter Try.func21, Try.ntmps21
  go_wp2
  go_ret
  exact ⟨rfl, rfl⟩

/-- The reader's Left, in the words of the reader. -/
theorem rd_left (B g : Nat) (e : Int) (l : List UInt8) (w : World) (h : RdS B w g e l) :
    Calls Try.prog 21 #[.pointer (some ⟨g, 0, none⟩)] w fun r w' => r = .returned (.int .i64 (l.length : Int)) ∧ ∃ q, w' = w.drewN q := by
  obtain ⟨s, at_, hr, rfl, hz⟩ := h
  obtain ⟨c0, c1, c2, f0, f2⟩ := hr.cells
  refine (left_any g s at_ w hr.2.2 hz c1 c2).mono ?_
  rintro r w' ⟨rfl, q, rfl⟩
  refine ⟨?_, q, rfl⟩
  have hat := hr.2.2
  have : s.data.size = s.size := rfl
  rw [List.length_drop, Array.length_toList]
  congr 2
  omega
theorem rd_errCell {B g : Nat} {e : Int} {l : List UInt8} {w : World} (h : RdS B w g e l) : w.cell? ⟨g, 0, none⟩ = some (.int .i64 e) ∧ w.frozen? ⟨g, 0, none⟩ = false := by
  obtain ⟨s, at_, hr, rfl, hz⟩ := h
  obtain ⟨c0, c1, c2, f0, f2⟩ := hr.cells
  exact ⟨c0, f0⟩
/-- Nothing that was there has turned. -/
def none_ (_ : Nat) : Prop := False
theorem rd_left_s (B g : Nat) (e : Int) (l : List UInt8) (w : World) (h : RdS B w g e l) :
    Calls Try.prog 21 #[.pointer (some ⟨g, 0, none⟩)] w fun r w' => r = .returned (.int .i64 (l.length : Int)) ∧ Only none_ w w' :=
  (rd_left B g e l w h).mono fun _ _ ⟨hr, q, hw⟩ => ⟨hr, by rw [hw]; exact only_drewN _ _ _⟩
theorem only_none_below {w w' : World} (h : Only none_ w w') {B : Nat} (hB : B ≤ w.heap.size) : Below B w w' := h.toBelow hB (fun _ h => h.elim)
theorem below_only {w w' : World} (h : Below w.heap.size w w') : Only none_ w w' := ⟨h.os, h.tape, h.output, h.size, fun k hk _ => h.block k hk⟩
end Go.Proofs.Ytjhciobkofnjfaa
