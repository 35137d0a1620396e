/- complinebook.SameTexts, match.Far; the plain laws of fitting. -/
import Derived.Test.YtjanmnjmnnnfmaaMateW
import Derived.Deep.QuietTactic
namespace Go.Proofs.Ytjanmnjmnnnfmaa
open Go.RowKit

def SameRel (n : Nat) (w : World) (s : Value) (wr : World) : Prop := ∃ (k q : Nat), k ≤ n ∧ s = .int .i64 k ∧ wr = w.drewN q
set_option maxHeartbeats 400000 in
set_option maxRecDepth 100000 in
theorem same_texts (A B : Option Addr) (n c d : Nat) (xs : List ByteArray) (w : World) (ha : Reads w A n (strs xs)) (hb : Reads w B n (strs xs)) (hn : n ≤ 100000) :
    Calls Try.prog 14 #[.slice A n c, .slice B n d] w fun r w' => r = .returned (.bool true) ∧ ∃ q, w' = w.drewN q := by
  have hnx : xs.length = n := by have := ha.1; simpa [strs] using this
  subst hnx
  have HA := hide ha
  have HB := hide hb
  clear ha hb
  go_enter Try.func14, Try.ntmps14
  go_wp2_with fail
  go_loopw [5] (fun s wr => SameRel xs.length w s wr) (fun s _ => xs.length - (intOf s).toNat)
  case atStart => exact ⟨0, 0, Nat.zero_le _, rfl, rfl⟩
  case round =>
    obtain ⟨k, q, hk, rfl, rfl⟩ := hrel
    by_cases hlt : k < xs.length
    · have hd : decide (k < xs.length) = true := by rw [decide_eq_true_iff]; exact hlt
      obtain ⟨ad, u, rfl, hu, hcell⟩ := HA.out.at_ hlt
      obtain ⟨bd_, u', rfl, hu', hcell'⟩ := HB.out.at_ hlt
      have e1 : u = .string (xs[k]'hlt) := by
        simp only [strs, List.getElem?_map, List.getElem?_eq_getElem hlt, Option.map_some, Option.some.injEq] at hu
        exact hu.symm
      have e2 : u' = .string (xs[k]'hlt) := by
        simp only [strs, List.getElem?_map, List.getElem?_eq_getElem hlt, Option.map_some, Option.some.injEq] at hu'
        exact hu'.symm
      subst e1 e2
      clear hu hu'
      obtain ⟨x, hxd⟩ : ∃ x, x = xs[k]'hlt := ⟨_, rfl⟩
      rw [← hxd] at hcell hcell'
      clear hxd
      go_wp2_with fail
      go_quiet (fail)
      go_wp2_with fail
      go_roundw
      case rel => exact ⟨k + 1, _, hlt, by go_num, rfl⟩
      case measure => simp [intOf]; omega
    · have hd : decide (k < xs.length) = false := by rw [decide_eq_false_iff_not]; exact hlt
      go_wp2_with fail
      go_ret
      exact ⟨rfl, _, rfl⟩


theorem own_reads {w : World} {B n : Nat} {e : TypeId} {A : Option Addr} {c : Nat} {xs : List Value} (h : w.ownsRow B e 1 (.slice A n c) n xs) : Reads w A n xs := by
  refine ⟨by have := h.1; omega, fun hn => ?_⟩
  rcases h.2 with ⟨h1, h0⟩ | ⟨g, cap, cur, h1, _⟩
  · omega
  · injection h1 with h2 h3 h4
    subst h2
    exact ⟨_, rfl, h.cells (g := g) (by simp [Value.ownBlock])⟩

/-! The plain laws -/
theorem farN_comm (a b : Int) : farN a b = farN b a := by unfold farN; omega
theorem ne_comm_ (a b : ByteArray) : decide (a ≠ b) = decide (b ≠ a) := by
  by_cases h : a = b
  · subst h; rfl
  · have : b ≠ a := fun e => h e.symm
    simp [h, this]
theorem bne_comm_ (a b : Int) : (a != b) = (b != a) := by
  by_cases h : a = b
  · subst h; rfl
  · rw [bne_iff_ne.2 h, bne_iff_ne.2 (fun e => h e.symm)]
theorem differ_comm (x y : Ins) (close : Int) : differP x y close = differP y x close := by
  unfold differP
  congr 1
  unfold chk
  rw [Bool.or_comm (x.state != 0), Bool.beq_comm (a := x.deliver), Bool.or_comm (decide (x.party ≠ y.other)), ne_comm_ x.asset, bne_comm_ x.qty, ne_comm_ x.ccy, bne_comm_ x.day, bne_comm_ x.trade, farN_comm x.am, ne_comm_ x.ref y.ref, Bool.and_assoc, Bool.and_comm (decide (x.ref ≠ ⟨#[]⟩)), ← Bool.and_assoc]
theorem fits_comm (x y : Ins) (close : Int) : fitsP x y close = fitsP y x close := by unfold fitsP; rw [differ_comm]
theorem fits_iff (x y : Ins) (close : Int) : fitsP x y close = true ↔ ∀ p ∈ chk x y close, p.2 = false := by
  unfold fitsP differP namesOf
  rw [List.isEmpty_iff, List.map_eq_nil_iff, List.filter_eq_nil_iff]
  constructor
  · intro h p hp
    simpa using h p hp
  · intro h p hp
    simp [h p hp]
theorem fits_self (x : Ins) (close : Int) : fitsP x x close = false := by
  cases h : fitsP x x close with
  | false => rfl
  | true =>
    have := (fits_iff x x close).1 h (⟨#[115, 105, 100, 101]⟩, x.deliver == x.deliver) (by simp [chk])
    simp at this
theorem fits_more (x y : Ins) (close more : Int) (hm : 0 ≤ more) (h : fitsP x y close = true) : fitsP x y (close + more) = true := by
  rw [fits_iff] at h ⊢
  intro p hp
  have ha := h (⟨#[97, 109, 111, 117, 110, 116]⟩, decide (close < 0) || decide (close < farN x.am y.am)) (by simp [chk])
  simp only [Bool.or_eq_false_iff, decide_eq_false_iff_not] at ha
  simp only [chk, List.mem_cons, List.not_mem_nil, or_false] at hp
  rcases hp with hp | hp | hp | hp | hp | hp | hp | hp | hp | hp
  case inr.inr.inr.inr.inr.inr.inr.inr.inl =>
    rw [hp]
    simp only [Bool.or_eq_false_iff, decide_eq_false_iff_not]
    omega
  all_goals
    rw [hp]
    refine h _ ?_
    simp [chk]
theorem farI_comm (x y : Ins) : farI x y = farI y x := by unfold farI; rw [farN_comm]
theorem farI_nonneg (x y : Ins) : 0 ≤ farI x y := by unfold farI; split <;> omega

set_option maxRecDepth 100000 in
theorem Far_any (x y : Ins) (X Y : List Value) (w : World) (hX : RowIs x X) (hY : RowIs y Y) (hx : bd x.am) (hy : bd y.am) :
    Calls Try.prog 13 #[.agg X.toArray, .agg Y.toArray] w fun r w' => r = .returned (.int .i64 (farI x y)) ∧ Below w.heap.size w w' := by
  have h2 := two_ranges w X Y
  have hb := below_two w (.cells X.toArray 25) (.cells Y.toArray 25)
  have c1 := range_zero h2.1 10 _ hX.am
  have c2 := range_zero h2.2 10 _ hY.am
  clear h2
  have Hhb := hide hb
  clear hb
  go_enter Try.func13, Try.ntmps13
  go_wp2_with fail
  refine (far_any x.am y.am _ hx hy).mono ?_
  rintro r w1 ⟨rfl, rfl⟩
  have hmin : ∀ W, (Builtin.min_ #[82, 82] 82 #[.int .u64 (farN x.am y.am), .int .u64 9223372036854775807]).run Try.prog W = .ok (.int .u64 (farI x y)) W := by
    intro W
    unfold farI
    simp only [Builtin.min_]
    by_cases h : (farN x.am y.am : Int) < 9223372036854775807
    · rw [if_pos h]
      have h3 : ¬ (9223372036854775807 : Int) < farN x.am y.am := by omega
      simp [Builtin.min2, h3]
    · rw [if_neg h]
      by_cases h4 : (9223372036854775807 : Int) < farN x.am y.am
      · simp [Builtin.min2, h4]
      · have : (farN x.am y.am : Int) = 9223372036854775807 := by omega
        simp [Builtin.min2, this]
  have hw64 : IntKind.i64.wrap (farI x y) = farI x y := u64_i64 _ (farI_nonneg x y) (by unfold farI; split <;> omega)
  obtain ⟨fi, hfi⟩ : ∃ fi, fi = farI x y := ⟨_, rfl⟩
  rw [← hfi] at hmin hw64
  have Hhfi := hide hfi
  clear hfi
  go_wp2_with fail
  go_ret
  rw [← Hhfi.out]
  exact ⟨rfl, Hhb.out⟩
end Go.Proofs.Ytjanmnjmnnnfmaa
