/- complinebook.SameInts, StaysInts, SameTexts, StaysTexts, where what is asked is so. -/
import Derived.Test.YtjhciobkofnjfaaLent
namespace Go.Proofs.Ytjhciobkofnjfaa
open Go.RowKit WM

def SameRel (n : Nat) (w : World) (s : Value) (wr : World) : Prop := ∃ (k q : Nat), k ≤ n ∧ s = .int .i64 k ∧ wr = w.drewN q
theorem Reads.drewN {w : World} {A : Option Addr} {n : Nat} {xs : List Value} (h : Reads w A n xs) (q : Nat) : Reads (w.drewN q) A n xs := ⟨h.1, h.2⟩
theorem Reads.take_ {w : World} {A : Option Addr} {n m : Nat} {xs : List Value} (h : Reads w A n xs) (hm : m ≤ n) : Reads w A m (xs.take m) := by
  have hl := h.1
  refine ⟨by rw [List.length_take]; omega, fun h0 => ?_⟩
  obtain ⟨ad, hA, hc⟩ := h.2 (by omega)
  refine ⟨ad, hA, fun j u hj => hc j u ?_⟩
  rw [List.getElem?_take] at hj
  split at hj
  · exact hj
  · cases hj

set_option maxHeartbeats 400000 in
set_option maxRecDepth 100000 in
theorem same_ints (A B : Option Addr) (n c d : Nat) (xs : List Int) (w : World) (ha : Reads w A n (ints xs)) (hb : Reads w B n (ints xs)) (hn : n ≤ 100000) :
    Calls Try.prog 59 #[.slice A n c, .slice B n d] w fun r w' => r = .returned (.bool true) ∧ ∃ q, w' = w.drewN q := by
  have hnx : xs.length = n := by have := ha.1; simpa [ints] using this
  subst hnx
  have HA := hide ha
  have HB := hide hb
  clear ha hb
  go_enter Try.func59, Try.ntmps59
  go_wp2_with fail
  go_loopw [5] (fun s wr => SameRel xs.length w s wr) (fun s _ => xs.length - (intOf s).toNat)
  case atStart => exact ⟨0, 0, Nat.zero_le _, rfl, rfl⟩
  case round =>
    obtain ⟨k, q, hk, rfl, rfl⟩ := hrel
    by_cases hlt : k < xs.length
    · have hd : decide (k < xs.length) = true := by rw [decide_eq_true_iff]; exact hlt
      obtain ⟨ad, u, rfl, hu, hcell⟩ := HA.out.at_ hlt
      obtain ⟨bd_, u', rfl, hu', hcell'⟩ := HB.out.at_ hlt
      have e1 : u = .int .i64 (xs[k]'hlt) := by
        simp only [ints, List.getElem?_map, List.getElem?_eq_getElem hlt, Option.map_some, Option.some.injEq] at hu
        exact hu.symm
      have e2 : u' = .int .i64 (xs[k]'hlt) := by
        simp only [ints, List.getElem?_map, List.getElem?_eq_getElem hlt, Option.map_some, Option.some.injEq] at hu'
        exact hu'.symm
      subst e1 e2
      clear hu hu'
      obtain ⟨x, hxd⟩ : ∃ x, x = xs[k]'hlt := ⟨_, rfl⟩
      rw [← hxd] at hcell hcell'
      clear hxd
      go_wp2_with fail
      go_quiet (fail)
      go_wp2_with fail
      go_roundw
      case rel => exact ⟨k + 1, _, hlt, by go_num, rfl⟩
      case measure => simp [intOf]; omega
    · have hd : decide (k < xs.length) = false := by rw [decide_eq_false_iff_not]; exact hlt
      go_wp2_with fail
      go_ret
      exact ⟨rfl, _, rfl⟩

set_option maxHeartbeats 400000 in
set_option maxRecDepth 100000 in
theorem stays_ints (g : Nat) (B : Option Addr) (n c d : Nat) (xs : List Int) (w : World) (ha : Reads w (some ⟨g, 0, none⟩) (n + 1) (ints xs ++ [.int .i64 (-77)])) (hb : Reads w B n (ints xs)) (hn : n ≤ 100000) (hc : n + 1 ≤ c) (_ : c ≤ 9223372036854775807) :
    Calls Try.prog 27 #[.slice (some ⟨g, 0, none⟩) n c, .slice B n d] w fun r w' => r = .returned (.bool true) ∧ ∃ q, w' = w.drewN q := by
  have hnx : xs.length = n := by have := hb.1; simpa [ints] using this
  subst hnx
  have hcell : w.cell? ⟨g, xs.length, none⟩ = some (.int .i64 (-77)) := by
    obtain ⟨ad, u, h1, h2, h3⟩ := ha.at_ (k := xs.length) (by omega)
    cases h1
    rw [add_plain] at h3
    rw [h3]
    simp [ints] at h2
    rw [← h2]
  have hA := ha.take_ (m := xs.length) (by omega)
  rw [show ((ints xs ++ [.int .i64 (-77)] : List Value)).take xs.length = ints xs from by rw [List.take_append_of_le_length (by simp [ints])]; exact List.take_of_length_le (by simp [ints])] at hA
  have HS := hide (same_ints (some ⟨g, 0, none⟩) B xs.length c d xs w hA hb hn)
  clear ha hb hA
  go_enter Try.func27, Try.ntmps27
  go_wp2_with fail
  refine HS.out.mono ?_
  rintro r w1 ⟨rfl, q, rfl⟩
  go_wp2_with fail
  go_ret
  exact ⟨rfl, _, rfl⟩

set_option maxHeartbeats 400000 in
set_option maxRecDepth 100000 in
theorem same_texts (A B : Option Addr) (n c d : Nat) (xs : List ByteArray) (w : World) (ha : Reads w A n (strs xs)) (hb : Reads w B n (strs xs)) (hn : n ≤ 100000) :
    Calls Try.prog 60 #[.slice A n c, .slice B n d] w fun r w' => r = .returned (.bool true) ∧ ∃ q, w' = w.drewN q := by
  have hnx : xs.length = n := by have := ha.1; simpa [strs] using this
  subst hnx
  have HA := hide ha
  have HB := hide hb
  clear ha hb
  go_enter Try.func60, Try.ntmps60
  go_wp2_with fail
  go_loopw [5] (fun s wr => SameRel xs.length w s wr) (fun s _ => xs.length - (intOf s).toNat)
  case atStart => exact ⟨0, 0, Nat.zero_le _, rfl, rfl⟩
  case round =>
    obtain ⟨k, q, hk, rfl, rfl⟩ := hrel
    by_cases hlt : k < xs.length
    · have hd : decide (k < xs.length) = true := by rw [decide_eq_true_iff]; exact hlt
      obtain ⟨ad, u, rfl, hu, hcell⟩ := HA.out.at_ hlt
      obtain ⟨bd_, u', rfl, hu', hcell'⟩ := HB.out.at_ hlt
      have e1 : u = .string (xs[k]'hlt) := by
        simp only [strs, List.getElem?_map, List.getElem?_eq_getElem hlt, Option.map_some, Option.some.injEq] at hu
        exact hu.symm
      have e2 : u' = .string (xs[k]'hlt) := by
        simp only [strs, List.getElem?_map, List.getElem?_eq_getElem hlt, Option.map_some, Option.some.injEq] at hu'
        exact hu'.symm
      subst e1 e2
      clear hu hu'
      obtain ⟨x, hxd⟩ : ∃ x, x = xs[k]'hlt := ⟨_, rfl⟩
      rw [← hxd] at hcell hcell'
      clear hxd
      go_wp2_with fail
      go_quiet (fail)
      go_wp2_with fail
      go_roundw
      case rel => exact ⟨k + 1, _, hlt, by go_num, rfl⟩
      case measure => simp [intOf]; omega
    · have hd : decide (k < xs.length) = false := by rw [decide_eq_false_iff_not]; exact hlt
      go_wp2_with fail
      go_ret
      exact ⟨rfl, _, rfl⟩

set_option maxHeartbeats 400000 in
set_option maxRecDepth 100000 in
theorem stays_texts (g : Nat) (B : Option Addr) (n c d : Nat) (xs : List ByteArray) (w : World) (ha : Reads w (some ⟨g, 0, none⟩) (n + 1) (strs xs ++ [.string ⟨#[109, 97, 114, 107]⟩])) (hb : Reads w B n (strs xs)) (hn : n ≤ 100000) (hc : n + 1 ≤ c) (_ : c ≤ 9223372036854775807) :
    Calls Try.prog 30 #[.slice (some ⟨g, 0, none⟩) n c, .slice B n d] w fun r w' => r = .returned (.bool true) ∧ ∃ q, w' = w.drewN q := by
  have hnx : xs.length = n := by have := hb.1; simpa [strs] using this
  subst hnx
  have hcell : w.cell? ⟨g, xs.length, none⟩ = some (.string ⟨#[109, 97, 114, 107]⟩) := by
    obtain ⟨ad, u, h1, h2, h3⟩ := ha.at_ (k := xs.length) (by omega)
    cases h1
    rw [add_plain] at h3
    rw [h3]
    simp [strs] at h2
    rw [← h2]
  have hA := ha.take_ (m := xs.length) (by omega)
  rw [show ((strs xs ++ [.string ⟨#[109, 97, 114, 107]⟩] : List Value)).take xs.length = strs xs from by rw [List.take_append_of_le_length (by simp [strs])]; exact List.take_of_length_le (by simp [strs])] at hA
  have HS := hide (same_texts (some ⟨g, 0, none⟩) B xs.length c d xs w hA hb hn)
  clear ha hb hA
  go_enter Try.func30, Try.ntmps30
  go_wp2_with fail
  refine HS.out.mono ?_
  rintro r w1 ⟨rfl, q, rfl⟩
  go_wp2_with fail
  go_ret
  exact ⟨rfl, _, rfl⟩
end Go.Proofs.Ytjhciobkofnjfaa
