/- A slice that came in, read as a list, whatever its elements. Nothing of the program. -/
import Derived.ProofKit
import Derived.Deep.Slices
import Derived.Test.YtjhciobkofnjfaaMem
namespace Go.Proofs.Ytjhciobkofnjfaa
open Go.ChangeShapes Go.WideShapes Go.RowKit Go.Deep

/-- A slice's value and what it leads to, in the world w: the cells of element j are read by R. -/
structure SliceOf {α : Type} (w : World) (size : Nat) (R : List Value → α → Prop) (A : Option Addr) (n c : Nat) (xs : List α) : Prop where
  len : xs.length = n
  cap : n ≤ c
  max : c ≤ maxLen
  nil : A = none → n = 0 ∧ c = 0
  cells : 0 < n → ∃ ad, A = some ad ∧ ad.block < w.heap.size ∧ ∀ j (h : j < xs.length), ∃ cs : List Value, cs.length = size ∧ (∀ k, k < size → w.cell? (ad.add (j * size + k)) = cs[k]?) ∧ R cs xs[j]

theorem choose_list {α : Type} (P : Nat → α → Prop) : ∀ n, (∀ i, i < n → ∃ a, P i a) → ∃ l : List α, l.length = n ∧ ∀ i (h : i < l.length), P i l[i]
  | 0, _ => ⟨[], rfl, fun i h => by simp at h⟩
  | n + 1, hp => by
    obtain ⟨l, hl, h⟩ := choose_list P n (fun i hi => hp i (by omega))
    obtain ⟨a, ha⟩ := hp n (by omega)
    refine ⟨l ++ [a], by simp [hl], fun i hi => ?_⟩
    by_cases hin : i < l.length
    · rw [List.getElem_append_left hin]; exact h i hin
    · have : i = n := by simp at hi; omega
      subst this
      rw [List.getElem_append_right (by omega)]
      simpa [hl] using ha

section
variable {H : Type} {enc : TypeId × Value → H} {P : Program} {w : World}
theorem open_list {α : Type} {R : List Value → α → Prop} {t e : TypeId} {size fuel : Nat} {cs : List Value} {x : DataW H × List MemPlace} (ht : P.underlying t = some (.slice e)) (hsz : P.cellsOf e = size) (hpos : 0 < size)
    (hE : ∀ n cs y, cs.length = size → DataW.trod enc P w 0 (fun _ => true) true n e cs = some y → ∃ a, R cs a) (h : DataW.trod enc P w 0 (fun _ => true) true fuel t cs = some x) :
    ∃ (A : Option Addr) (n c : Nat) (xs : List α), cs = [.slice A n c] ∧ SliceOf w size R A n c xs := by
  subst hsz
  rcases open_slice ht h with ⟨rfl, _⟩ | ⟨a, len, cap, m, n, D, Pl, rfl, _, hl, hm, hmm, hx, hi⟩
  · exact ⟨none, 0, 0, [], rfl, ⟨rfl, Nat.le_refl _, Nat.zero_le _, fun _ => ⟨rfl, rfl⟩, fun h => absurd h (by omega)⟩⟩
  · rw [if_pos rfl] at hmm
    have hex : ∀ i, i < len → ∃ y : α, ∃ cs' : List Value, cs'.length = P.cellsOf e ∧ (∀ k, k < P.cellsOf e → w.cell? (a.add (i * P.cellsOf e + k)) = cs'[k]?) ∧ R cs' y := by
      intro i hil
      obtain ⟨cs', hc, ht'⟩ := hi i (by omega)
      obtain ⟨_, hcl, hat⟩ := World.cells?_some hc
      obtain ⟨y, hy⟩ := hE n cs' _ hcl ht'
      exact ⟨y, cs', hcl, fun k hk => by rw [← add_of_add]; exact hat k hk, hy⟩
    obtain ⟨xs, hxl, hxs⟩ := choose_list _ len hex
    refine ⟨some a, len, cap, xs, rfl, ⟨hxl, hl, hm, (fun h => by cases h), fun hn => ⟨a, rfl, ?_, fun j hj => hxs j hj⟩⟩⟩
    obtain ⟨cs', hcl, hat, _⟩ := hxs 0 (by omega)
    have h0 := hat 0 hpos
    have : cs'[0]? = some (cs'[0]'(by omega)) := List.getElem?_eq_getElem (by omega)
    rw [this] at h0
    have := World.block_lt_of_cell? w _ h0
    rwa [block_of_add] at this
end

/-- One-cell elements: the slice reads as a list of values. -/
theorem SliceOf.reads {α : Type} {w : World} {A : Option Addr} {n c : Nat} {xs : List α} {f : α → Value} {G : α → Prop} (h : SliceOf w 1 (fun cs a => cs = [f a] ∧ G a) A n c xs) : Reads w A n (xs.map f) := by
  refine ⟨by rw [List.length_map, h.len], fun hn => ?_⟩
  obtain ⟨ad, hA, _, hc⟩ := h.cells hn
  refine ⟨ad, hA, fun j u hu => ?_⟩
  have hj : j < xs.length := by have := (List.getElem?_eq_some_iff.1 hu).1; simpa using this
  obtain ⟨cs, _, hat, hcs, _⟩ := hc j hj
  have h0 := hat 0 (by omega)
  rw [Nat.mul_one, Nat.add_zero, hcs] at h0
  rw [h0]
  simp only [List.getElem?_map, List.getElem?_eq_getElem hj, Option.map_some, Option.some.injEq] at hu
  simp [hu]
theorem SliceOf.good {α : Type} {w : World} {A : Option Addr} {n c size : Nat} {xs : List α} {S : List Value → α → Prop} {G : α → Prop} (h : SliceOf w size (fun cs a => S cs a ∧ G a) A n c xs) : ∀ x ∈ xs, G x := by
  intro x hx
  obtain ⟨j, hj, rfl⟩ := List.getElem_of_mem hx
  obtain ⟨_, _, _, hc⟩ := h.cells (by have := h.len; omega)
  obtain ⟨cs, _, _, _, hG⟩ := hc j hj
  exact hG
theorem SliceOf.block {α : Type} {w : World} {A : Option Addr} {n c size : Nat} {xs : List α} {R : List Value → α → Prop} (h : SliceOf w size R A n c xs) : 0 < n → ∀ ad, A = some ad → ad.block < w.heap.size := by
  intro hn ad hA
  obtain ⟨ad', hA', hlt, _⟩ := h.cells hn
  rw [hA] at hA'
  cases hA'
  exact hlt
/-- Below what was there, all is read as it was. -/
theorem Reads.below_ {w w' : World} {A : Option Addr} {n : Nat} {xs : List Value} (h : Reads w A n xs) (hb : Below w.heap.size w w') (hlt : 0 < n → ∀ ad, A = some ad → ad.block < w.heap.size) : Reads w' A n xs :=
  ⟨h.1, fun hn => by
    obtain ⟨ad, e, hc⟩ := h.2 hn
    exact ⟨ad, e, fun j u hu => (hb.cell (p := ad.add j) (by rw [block_of_add]; exact hlt hn ad e)).trans (hc j u hu)⟩⟩
end Go.Proofs.Ytjhciobkofnjfaa
