/- complinebook.Room: how much room is left. -/
import Derived.Test.YtjhciobkofnjfaaAlive3
namespace Go.Proofs.Ytjhciobkofnjfaa
open Go.RowKit WM

def roomP : Int → List Int → Int
  | l, [] => l
  | l, s :: r => if l < 0 ∨ l < s then -1 else roomP (l - s) r

def RoomRel (left : Int) (xs : List Int) (w : World) (s0 s5 : Value) (wr : World) : Prop :=
  ∃ (k : Nat) (l : Int), k ≤ xs.length ∧ s5 = .int .i64 k ∧ s0 = .int .i64 l ∧ -1 ≤ l ∧ l ≤ 9000 ∧ roomP l (xs.drop k) = roomP left xs ∧ wr = w

set_option maxHeartbeats 400000 in
set_option maxRecDepth 100000 in
theorem room_any (left : Int) (A : Option Addr) (n c : Nat) (xs : List Int) (w : World) (hr : Reads w A n (ints xs)) (hx : ∀ x ∈ xs, 0 ≤ x) (h0 : -1 ≤ left) (h1 : left ≤ 9000) (hn : n ≤ 1000) :
    Calls Try.prog 58 #[.int .i64 left, .slice A n c] w fun r w' => r = .returned (.int .i64 (roomP left xs)) ∧ w = w' := by
  have hnx : xs.length = n := by have := hr.1; simpa [ints] using this
  subst hnx
  have HR := hide hr
  have HX := hide hx
  clear hr hx
  go_enter Try.func58, Try.ntmps58
  go_wp2_with fail
  go_loopw [0, 5] (fun s0 s5 wr => RoomRel left xs w s0 s5 wr) (fun _ s5 _ => xs.length - (intOf s5).toNat)
  case atStart => exact ⟨0, left, Nat.zero_le _, rfl, rfl, h0, h1, rfl, rfl⟩
  case round =>
    clear h0 h1
    obtain ⟨k, l, hk, rfl, rfl, h0, h1, he, rfl⟩ := hrel
    have HE := hide he
    clear he
    by_cases hlt : k < xs.length
    · have hd : decide (k < xs.length) = true := by rw [decide_eq_true_iff]; exact hlt
      obtain ⟨ad, u, rfl, hu, hcell⟩ := HR.out.at_ hlt
      have hu2 : u = .int .i64 (xs[k]'hlt) := by
        simp only [ints, List.getElem?_map, List.getElem?_eq_getElem hlt, Option.map_some, Option.some.injEq] at hu
        exact hu.symm
      subst hu2
      clear hu
      have hp := HX.out (xs[k]'hlt) (List.getElem_mem hlt)
      obtain ⟨x, hxd⟩ : ∃ x, x = xs[k]'hlt := ⟨_, rfl⟩
      rw [← hxd] at hcell hp
      have HXD := hide hxd
      clear hxd
      have hstep : roomP l (xs.drop k) = if l < 0 ∨ l < x then -1 else roomP (l - x) (xs.drop (k + 1)) := by rw [drop_cons hlt, ← HXD.out]; rfl
      have HS := hide hstep
      clear hstep
      by_cases hneg : l < 0
      · have d1 : decide (l < 0) = true := by rw [decide_eq_true_iff]; exact hneg
        go_wp2_with fail
        go_ret
        have e1 : roomP left xs = -1 := by rw [← HE.out, HS.out, if_pos (Or.inl hneg)]
        rw [e1]
        exact ⟨rfl, rfl⟩
      · have d1 : decide (l < 0) = false := by rw [decide_eq_false_iff_not]; exact hneg
        by_cases hov : l < x
        · have d2 : decide (l < x) = true := by rw [decide_eq_true_iff]; exact hov
          go_wp2_with fail
          go_ret
          have e1 : roomP left xs = -1 := by rw [← HE.out, HS.out, if_pos (Or.inr hov)]
          rw [e1]
          exact ⟨rfl, rfl⟩
        · have d2 : decide (l < x) = false := by rw [decide_eq_false_iff_not]; exact hov
          go_wp2_with fail
          go_roundw
          case rel =>
            refine ⟨k + 1, l - x, hlt, by go_num, rfl, by omega, by omega, ?_, rfl⟩
            rw [← HE.out, HS.out, if_neg (by omega)]
          case measure => simp [intOf]; omega
    · have hd : decide (k < xs.length) = false := by rw [decide_eq_false_iff_not]; exact hlt
      go_wp2_with fail
      go_ret
      have e1 : roomP left xs = l := by rw [← HE.out, List.drop_of_length_le (by omega)]; rfl
      rw [e1]
      exact ⟨rfl, rfl⟩
theorem roomP_bd : ∀ (xs : List Int) (l : Int), (∀ x ∈ xs, 0 ≤ x) → -1 ≤ l → l ≤ 9000 → -1 ≤ roomP l xs ∧ roomP l xs ≤ 9000
  | [], l, _, h0, h1 => ⟨h0, h1⟩
  | x :: xs, l, hx, h0, h1 => by
    unfold roomP
    split
    · omega
    · exact roomP_bd xs (l - x) (fun y hy => hx y (by simp [hy])) (by omega) (by have := hx x (by simp); omega)
/-- Where there is room behind all, all of it was there. -/
theorem roomP_sum : ∀ (xs : List Int) (l : Int), 0 ≤ roomP l xs → 0 ≤ l ∧ roomP l xs = l - xs.sum
  | [], l, h => ⟨h, by simp [roomP]⟩
  | x :: xs, l, h => by
    unfold roomP at h ⊢
    split at h
    · omega
    · rename_i hc
      rw [if_neg hc]
      obtain ⟨_, h2⟩ := roomP_sum xs (l - x) h
      rw [h2, List.sum_cons]
      omega
end Go.Proofs.Ytjhciobkofnjfaa
