/- A slice of instructions that came in, read as plain data. -/
import Derived.Test.YtjanmnjmnnnfmaaInOpen
import Derived.Test.YtjanmnjmnnnfmaaMateW
namespace Go.Proofs.Ytjanmnjmnnnfmaa
open Go.ChangeShapes Go.WideShapes Go.ChangeAt Go.RowKit

section
variable {H : Type} {enc : TypeId × Value → H} {W : World}
set_option maxRecDepth 100000 in
theorem open_insts {r : Reach} {b0 : Nat} {v : Value} {d : DataW H} {p : List MemPlace} (hv : Value.okWide Try.prog W r b0 33 v) (h : DataW.Trod enc Try.prog W 0 (fun _ => true) true 33 v d p) :
    ∃ (A : Option Addr) (n c : Nat) (l : List Ins), v = .slice A n c ∧ Seen W A n l ∧ (A = none → n = 0) ∧ (∀ y ∈ l, Fair y) ∧ n ≤ c ∧ c ≤ maxLen := by
  obtain ⟨a0, len, cap, rfl⟩ := okWide_slice Try.underlying33 hv
  obtain ⟨fuel, hf⟩ := h
  rcases Go.Deep.open_slice Try.underlying33 hf with ⟨hcs, hx⟩ | ⟨a, len', cap', m, n, D, Pl, hcs, _, hl, hm, hmm, _, hx⟩
  · have : a0 = none ∧ len = 0 ∧ cap = 0 := by simpa [Value.cells] using hcs
    obtain ⟨rfl, rfl, rfl⟩ := this
    exact ⟨none, 0, 0, [], rfl, ⟨rfl, fun ad h => (by cases h)⟩, fun _ => rfl, by simp, Nat.le_refl _, Nat.zero_le _⟩
  · have : a0 = some a ∧ len = len' ∧ cap = cap' := by simpa [Value.cells] using hcs
    obtain ⟨rfl, rfl, rfl⟩ := this
    rw [if_pos rfl] at hmm
    subst hmm
    have each : ∀ i, i < m → ∃ y : Ins, Fair y ∧ ∀ k, k < 21 → W.cell? (a.add (i * 21 + k)) = y.row[k]? := by
      intro i hi
      obtain ⟨cs', h1, h2⟩ := hx i hi
      obtain ⟨y, rfl, hy⟩ := trod_inst h2
      rw [c_inst] at h1
      obtain ⟨_, _, hcell⟩ := World.cells?_some h1
      refine ⟨y, hy, fun k hk => ?_⟩
      have := hcell k hk
      rw [Go.Deep.add_add] at this
      exact this
    obtain ⟨f, hff⟩ := Go.Deep.choose_lt each
    have hlen : ((List.range len).map f).length = len := by simp
    refine ⟨some a, len, m, (List.range len).map f, rfl, ⟨hlen, ?_⟩, fun h => (by cases h), ?_, hl, hm⟩
    · intro ad he j u hu
      cases he
      have hj := (List.getElem?_eq_some_iff.1 hu).1
      rw [rows_len, hlen] at hj
      have hi : j / 21 < len := by omega
      have hk : j % 21 < 21 := by omega
      have e := rows_at ((List.range len).map f) (j / 21) (j % 21) (by rw [hlen]; exact hi) hk
      have hje : j / 21 * 21 + j % 21 = j := by omega
      rw [hje] at e
      have hc := (hff (j / 21) (by omega)).2 (j % 21) hk
      rw [hje] at hc
      rw [hc, ← hu, e]
      simp
    · intro y hy
      obtain ⟨i, hi, rfl⟩ := List.mem_map.1 hy
      exact (hff i (by have := List.mem_range.1 hi; omega)).1
end
end Go.Proofs.Ytjanmnjmnnnfmaa
