/- What came in, read as plain data. -/
import Derived.Test.YtjhciobkofnjfaaRow
import Derived.Test.YtjhciobkofnjfaaNumL
namespace Go.Proofs.Ytjhciobkofnjfaa
open Go.ChangeShapes Go.WideShapes Go.ChangeAt Go.RowKit

theorem cells_int : Try.prog.cellsOf 3 = 1 := by kernel_rfl

section
variable {H : Type} {enc : TypeId × Value → H} {W : World}
set_option maxRecDepth 100000 in
/-- A slice of numbers that came in. -/
theorem open_intl {r : Reach} {b0 : Nat} {v : Value} {d : DataW H} {p : List MemPlace} (hv : Value.okWide Try.prog W r b0 50 v) (h : DataW.Trod enc Try.prog W 0 (fun _ => true) true 50 v d p) :
    ∃ (A : Option Addr) (n c : Nat) (xs : List Int), v = .slice A n c ∧ Reads W A n (ints xs) ∧ (0 < n → ∀ ad, A = some ad → ad.block < W.heap.size) ∧ (∀ x ∈ xs, bd x) ∧ n ≤ maxLen ∧ n ≤ c ∧ c ≤ maxLen := by
  obtain ⟨a0, len, cap, rfl⟩ := okWide_slice Try.underlying50 hv
  obtain ⟨fuel, hf⟩ := h
  rcases open_ints Try.underlying50 Try.underlying3 cells_int hf with ⟨hcs, hx⟩ | ⟨a, len', cap', zs, hcs, _, hl, hm, hz, hx, hcell, hwz⟩
  · have : a0 = none ∧ len = 0 ∧ cap = 0 := by simpa [Value.cells] using hcs
    obtain ⟨rfl, rfl, rfl⟩ := this
    exact ⟨none, 0, 0, [], rfl, Reads.none_ W, fun h => absurd h (by omega), by simp, Nat.zero_le _, Nat.le_refl _, Nat.zero_le _⟩
  · have : a0 = some a ∧ len = len' ∧ cap = cap' := by simpa [Value.cells] using hcs
    obtain ⟨rfl, rfl, rfl⟩ := this
    rw [if_pos rfl] at hz
    refine ⟨some a, len, cap, zs.take len, rfl, ⟨by simp [ints]; omega, fun hn => ⟨a, rfl, fun j u hu => ?_⟩⟩, ?_, ?_, Nat.le_trans hl hm, hl, hm⟩
    · have hj : j < len := by
        have := (List.getElem?_eq_some_iff.1 hu).1
        simp [ints] at this; omega
      rw [hcell j (by omega)]
      simp only [ints, List.getElem?_map, List.getElem?_take, if_pos hj, List.getElem?_eq_getElem (show j < zs.length by omega), Option.map_some, Option.some.injEq] at hu
      rw [← hu]
      simp [List.getD, show j < zs.length by omega]
    · intro hn ad he
      cases he
      have := World.block_lt_of_cell? W _ (hcell 0 (by omega))
      rwa [block_of_add] at this
    · intro x hx'
      exact bd_of_wf (hwz x (List.mem_of_mem_take hx'))
end
end Go.Proofs.Ytjhciobkofnjfaa
