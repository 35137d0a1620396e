/- (*wire.Reader).num: a number is read from a place on. -/
import Derived.Test.YtjhciobkofnjfaaW1
import Derived.Test.YtjhciobkofnjfaaMem
import Derived.Test.YtjhciobkofnjfaaBitsAid
import Derived.Deep.QuietTactic
import Derived.BigQuiet
namespace Go.Proofs.Ytjhciobkofnjfaa
open Go.RowKit WM

def lift (i acc : Nat) : Got → Got
  | .ok n k => .ok (acc + 128 ^ i * n) (i + k)
  | .err e => .err e
def gotV (at_ : Nat) : Got → Value
  | .ok n k => .tuple #[.int .i64 (uz n), .int .i64 ((at_ + k : Nat) : Int), .int .i64 0]
  | .err e => .tuple #[.int .i64 0, .int .i64 0, .int .i64 e]

/-- A reader of the program: its error, its bytes, its place. -/
def Rd (B : Nat) (W : World) (g : Nat) (e : Int) (s : ByteArray) (at_ : Nat) : Prop :=
  B ≤ g ∧ W.heap[g]? = some (.cells #[.int .i64 e, .string s, .int .i64 at_] 40 (0, 0)) ∧ at_ ≤ s.size

def RNumRel (s : ByteArray) (at_ : Nat) (w : World) (s5 s6 : Value) (wr : World) : Prop :=
  ∃ (i acc q : Nat), i ≤ 9 ∧ at_ + i ≤ s.size ∧ acc < 128 ^ i ∧ s5 = .int .u64 acc ∧ s6 = .int .i64 i ∧ wr = w.drewN q ∧ dec 0 (s.data.toList.drop at_) = lift i acc (dec i (s.data.toList.drop (at_ + i)))

def RNumPost (s : ByteArray) (at_ : Nat) (w : World) (r : Ending) (w' : World) : Prop :=
  r = .returned (gotV at_ (dec 0 (s.data.toList.drop at_))) ∧ ∃ q, w' = w.drewN q

theorem drop_byte (s : ByteArray) (k : Nat) (h : k < s.size) : s.data.toList.drop k = s[k] :: s.data.toList.drop (k + 1) :=
  List.drop_eq_getElem_cons (by simpa using h)

theorem got_err {at_ : Nat} {l : List UInt8} {i acc : Nat} {L : List UInt8} {e : Int} (h : dec 0 l = lift i acc (dec i L)) (hd : dec i L = .err e) :
    gotV at_ (dec 0 l) = .tuple #[.int .i64 0, .int .i64 0, .int .i64 e] := by rw [h, hd]; rfl
theorem got_ok {at_ : Nat} {l : List UInt8} {i acc c n : Nat} {L : List UInt8} {x y : Int} (h : dec 0 l = lift i acc (dec i L)) (hd : dec i L = .ok c 1) (hn : n = acc + 128 ^ i * c)
    (hx : x = uz n) (hy : y = (at_ : Int) + i + 1) : .tuple #[.int .i64 x, .int .i64 y, .int .i64 0] = gotV at_ (dec 0 l) := by
  rw [h, hd, hx, hy, hn]
  simp only [lift, gotV, Int.natCast_add, Int.add_assoc]
  rfl
theorem lift_more (i acc c : Nat) (g : Got) : lift i acc (g.more c) = lift (i + 1) (acc + 128 ^ i * (c % 128)) g := by
  cases g with
  | err e => rfl
  | ok n k =>
    simp only [Got.more, lift, Got.ok.injEq]
    refine ⟨?_, by omega⟩
    rw [Nat.pow_succ, Nat.mul_add, Nat.add_assoc, Nat.mul_assoc]
theorem acc_bd {i acc c : Nat} (_hi : i ≤ 8) (ha : acc < 128 ^ i) : acc + 128 ^ i * (c % 128) < 128 ^ (i + 1) := by
  have : 128 ^ i * (c % 128) ≤ 128 ^ i * 127 := Nat.mul_le_mul_left _ (by omega)
  rw [Nat.pow_succ]
  omega
theorem acc_u64 {i x : Nat} (hi : i ≤ 8) (h : x < 128 ^ (i + 1)) : x < 18446744073709551616 := by
  have hp : 128 ^ (i + 1) ≤ 128 ^ 9 := Nat.pow_le_pow_right (by omega) (by omega)
  omega

set_option maxHeartbeats 1600000 in
set_option maxRecDepth 100000 in
theorem rnum_any (g : Nat) (s : ByteArray) (at_ : Nat) (w : World) (hat : at_ ≤ s.size) (hs : s.size ≤ 140737488355328)
    (hc1 : w.cell? ⟨g, 1, none⟩ = some (.string s)) (hc2 : w.cell? ⟨g, 2, none⟩ = some (.int .i64 at_)) :
    Calls Try.prog 57 #[.pointer (some ⟨g, 0, none⟩)] w (RNumPost s at_ w) := by
  go_enter Try.func57, Try.ntmps57
  go_wp2_with fail
  go_loopw [5, 6] (fun s5 s6 wr => RNumRel s at_ w s5 s6 wr) (fun _ s6 _ => 10 - (intOf s6).toNat)
  case atStart => exact ⟨0, 0, 0, by omega, by omega, by simp, rfl, rfl, rfl, by cases dec 0 (s.data.toList.drop at_) <;> simp [lift]⟩
  case round =>
    obtain ⟨i, acc, q, hi, hat2, hacc, rfl, rfl, rfl, heq⟩ := hrel
    have HA := hide hacc
    have HE := hide heq
    clear hacc heq
    have hd0 : ((i : Int) == 10) = false := by rw [beq_eq_false_iff_ne]; omega
    by_cases hend : at_ + i < s.size
    · have hd1 : decide ((s.size : Int) ≤ (at_ : Int) + (i : Int)) = false := by rw [decide_eq_false_iff_not]; omega
      have hi0 : (0 : Int) ≤ (at_ : Int) + (i : Int) := by omega
      have hi1 : (at_ : Int) + (i : Int) < (s.size : Int) := by omega
      go_wp2_with fail
      go_quiet (fail)
      go_wp2_with fail
      go_quiet (fail)
      have hdr := drop_byte s (at_ + i) hend
      have HDR := hide hdr
      clear hdr
      generalize hcd : (s[at_ + i]'hend).toNat = c
      have hc256 : c < 256 := by rw [← hcd]; exact UInt8.toNat_lt _
      have HC := hide hcd
      clear hcd
      by_cases h9 : i = 9
      · subst h9
        by_cases hc1 : 1 < c
        · have f1 : decide (1 < (c : Int)) = true := by rw [decide_eq_true_iff]; omega
          have HD : Hid (dec 9 (s.data.toList.drop (at_ + 9)) = .err 4) := by
            have h := HC.out
            show dec 9 (s.data.toList.drop (at_ + 9)) = .err 4
            rw [HDR.out]; simp only [dec]; rw [if_pos ⟨trivial, by omega⟩]
          go_wp2_with fail
          refine bodyPost_ret (results_tmp3 rfl _ _ _) rfl ?_
          exact ⟨congrArg Ending.returned (got_err HE.out HD.out).symm, _, rfl⟩
        · have f1 : decide (1 < (c : Int)) = false := by rw [decide_eq_false_iff_not]; omega
          by_cases hz : c = 0
          · subst hz
            have f2 : (bits .and .u8 0 128 != 0) = false := by decide
            have HD : Hid (dec 9 (s.data.toList.drop (at_ + 9)) = .err 4) := by
              have h := HC.out
              show dec 9 (s.data.toList.drop (at_ + 9)) = .err 4
              rw [HDR.out]; simp only [dec]; rw [if_neg (by omega), if_neg (by omega), if_pos ⟨h, by omega⟩]
            go_wp2_with fail
            refine bodyPost_ret (results_tmp3 rfl _ _ _) rfl ?_
            exact ⟨congrArg Ending.returned (got_err HE.out HD.out).symm, _, rfl⟩
          · obtain rfl : c = 1 := by omega
            have f2 : (bits .and .u8 1 128 != 0) = false := by decide
            have HD : Hid (dec 9 (s.data.toList.drop (at_ + 9)) = .ok 1 1) := by
              have h := HC.out
              show dec 9 (s.data.toList.drop (at_ + 9)) = .ok 1 1
              rw [HDR.out]; simp only [dec]; rw [if_neg (by omega), if_neg (by omega), if_neg (by omega), h]
            go_wp2_with fail
            obtain ⟨n, hn⟩ : ∃ n : Nat, n = acc + 128 ^ 9 * 1 := ⟨_, rfl⟩
            have HN := hide hn
            have e1 : bits .or .u64 (acc : Int) (IntKind.u64.wrap (IntKind.u64.wrap (bits .and .u8 1 127) * 9223372036854775808)) = (n : Int) := by rw [hn]; exact acc_nine acc HA.out
            rw [e1]
            clear e1 hn
            generalize Value.int .u64 (IntKind.u64.wrap (IntKind.u64.wrap (bits .and .u8 1 127) * 9223372036854775808)) = q47
            go_quiet (fail)
            go_wp2_with fail
            refine bodyPost_ret (results_tmp3 rfl _ _ _) rfl ?_
            refine ⟨congrArg Ending.returned (got_ok HE.out HD.out HN.out (uz_bits n ?_) rfl), _, World.drewN_drewN _ _ _⟩
            have := HA.out
            have h2 := HN.out
            omega
      · have f0 : ((i : Int) == 9) = false := by rw [beq_eq_false_iff_ne]; omega
        by_cases hm : 128 ≤ c
        · have f1 : (bits .and .u8 (c : Int) 128 != 0) = true := by rw [and128 c hc256]; simpa using hm
          have HD : Hid (dec i (s.data.toList.drop (at_ + i)) = (dec (i + 1) (s.data.toList.drop (at_ + i + 1))).more c) := by
            have h := HC.out
            show dec i (s.data.toList.drop (at_ + i)) = (dec (i + 1) (s.data.toList.drop (at_ + i + 1))).more c
            rw [HDR.out]; simp only [dec]; rw [if_neg (by omega), if_pos (by omega), h]
          go_wp2_with fail
          go_roundw
          case rel =>
            refine ⟨i + 1, acc + 128 ^ i * (c % 128), _, by omega, by omega, acc_bd (by omega) HA.out, ?_, by go_num, rfl, ?_⟩
            · rw [acc_step i acc c (by omega) HA.out hc256]
            · rw [HE.out, HD.out, lift_more]; rfl
          case measure => simp [intOf]; omega
        · have f1 : (bits .and .u8 (c : Int) 128 != 0) = false := by rw [and128 c hc256]; simpa using hm
          by_cases hz : c = 0 ∧ 0 < i
          · have f2 : decide (0 < (i : Int)) = true := by rw [decide_eq_true_iff]; omega
            have f3 : ((c : Int) == 0) = true := by rw [beq_iff_eq]; omega
            have HD : Hid (dec i (s.data.toList.drop (at_ + i)) = .err 4) := by
              have h := HC.out
              show dec i (s.data.toList.drop (at_ + i)) = .err 4
              rw [HDR.out]; simp only [dec]; rw [if_neg (by omega), if_neg (by omega), if_pos ⟨by omega, hz.2⟩]
            go_wp2_with fail
            refine bodyPost_ret (results_tmp3 rfl _ _ _) rfl ?_
            exact ⟨congrArg Ending.returned (got_err HE.out HD.out).symm, _, rfl⟩
          · have HD : Hid (dec i (s.data.toList.drop (at_ + i)) = .ok c 1) := by
              have h := HC.out
              show dec i (s.data.toList.drop (at_ + i)) = .ok c 1
              rw [HDR.out]; simp only [dec]; rw [if_neg (by omega), if_neg (by omega), if_neg (by omega), h]
            by_cases hz0 : c = 0
            · obtain rfl : i = 0 := by omega
              subst hz0
              obtain rfl : acc = 0 := by have := HA.out; omega
              go_wp2_with fail
              rw [acc_zero]
              go_quiet (fail)
              go_wp2_with fail
              refine bodyPost_ret (results_tmp3 rfl _ _ _) rfl ?_
              refine ⟨congrArg Ending.returned (got_ok HE.out HD.out (n := 0) rfl ?_ ?_), _, World.drewN_drewN _ _ _⟩
              · have e := uz_bits 0 (by omega)
                rw [show wrap64 (((0 : Nat) : Int) / 2) = 0 from by simp [wrap64]] at e
                exact e
              · simp
            · have f3 : ((c : Int) == 0) = false := by rw [beq_eq_false_iff_ne]; omega
              go_wp2_with fail
              obtain ⟨n, hn⟩ : ∃ n : Nat, n = acc + 128 ^ i * (c % 128) := ⟨_, rfl⟩
              have HN := hide hn
              have e1 : bits .or .u64 (acc : Int) (IntKind.u64.wrap (IntKind.u64.wrap (bits .and .u8 (c : Int) 127) * 2 ^ (7 * i))) = (n : Int) := by rw [hn]; exact acc_step i acc c (by omega) HA.out hc256
              rw [e1]
              clear e1 hn
              go_quiet (fail)
              go_wp2_with fail
              refine bodyPost_ret (results_tmp3 rfl _ _ _) rfl ?_
              have hcm : c % 128 = c := by omega
              refine ⟨congrArg Ending.returned (got_ok HE.out HD.out (by rw [HN.out, hcm]) (uz_bits n ?_) rfl), _, World.drewN_drewN _ _ _⟩
              have h8 : i ≤ 8 := by omega
              have := acc_bd (c := c) h8 HA.out
              rw [← HN.out] at this
              exact acc_u64 h8 this
    · have hd1 : decide ((s.size : Int) ≤ (at_ : Int) + (i : Int)) = true := by rw [decide_eq_true_iff]; omega
      have HD : Hid (dec i (s.data.toList.drop (at_ + i)) = .err 5) := by
        show dec i (s.data.toList.drop (at_ + i)) = .err 5
        rw [List.drop_of_length_le (by rw [Array.length_toList]; exact Nat.le_of_not_lt hend)]
        rfl
      go_wp2_with fail
      go_quiet (fail)
      go_wp2_with fail
      refine bodyPost_ret (results_tmp3 rfl _ _ _) rfl ?_
      exact ⟨congrArg Ending.returned (got_err HE.out HD.out).symm, _, by rw [World.drewN_drewN]⟩
end Go.Proofs.Ytjhciobkofnjfaa
