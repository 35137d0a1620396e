/- Walks of the small functions of wire: what each call comes to. -/
import Derived.Test.YtjhciobkofnjfaaChecked
import Derived.WalkKit
import Derived.Lib.AppendStr
import Derived.Deep.Draws
import Derived.Test.YtjhciobkofnjfaaWireMath
namespace Go.Proofs.Ytjhciobkofnjfaa
open Go.RowKit

theorem wrong_at (a : Addr) (e : Int) (w : World) (h : w.cell? a = some (.int .i64 e)) :
    Calls Try.prog 22 #[.pointer (some a)] w fun r w' => r = .returned (.int .i64 e) ∧ w = w' := by
  go_enter Try.func22, Try.ntmps22
  go_wp2
  go_ret
  exact ⟨rfl, rfl⟩

theorem newWriter_any (w : World) :
    Calls Try.prog 16 #[] w fun r w' => r = .returned (.pointer (some ⟨w.heap.size, 0, none⟩)) ∧ w.alloc (.cells #[.int .i64 0, .slice none 0 0] 49) = w' := by
  go_enter Try.func16, Try.ntmps16
  go_wp2
  go_ret
  exact ⟨rfl, rfl⟩

theorem fail_set (a : Addr) (x : Int) (w : World) (h : w.cell? a = some (.int .i64 0)) (hf : w.frozen? a = false) :
    Calls Try.prog 33 #[.pointer (some a), .int .i64 x] w fun r w' => r = .returned (.tuple #[]) ∧ w.setCell a (.int .i64 x) = w' := by
  go_enter Try.func33, Try.ntmps33
  go_wp2
  go_end0
  exact ⟨rfl, rfl⟩

theorem fail_kept (a : Addr) (e x : Int) (w : World) (h : w.cell? a = some (.int .i64 e)) (he : (e == 0) = false) :
    Calls Try.prog 33 #[.pointer (some a), .int .i64 x] w fun r w' => r = .returned (.tuple #[]) ∧ w = w' := by
  go_enter Try.func33, Try.ntmps33
  go_wp2
  go_end0
  exact ⟨rfl, rfl⟩

end Go.Proofs.Ytjhciobkofnjfaa
