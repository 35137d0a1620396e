/- (*wire.Writer).Num: numbers are put one behind the other. -/
import Derived.Test.YtjhciobkofnjfaaNum
namespace Go.Proofs.Ytjhciobkofnjfaa
open Go.RowKit WM

def ints (l : List Int) : List Value := l.map (Value.int .i64)
def encs (l : List Int) : List UInt8 := l.flatMap encI
theorem encs_snoc (l : List Int) (v : Int) : encs (l ++ [v]) = encs l ++ encI v := by simp [encs]
def bd (v : Int) : Prop := -9223372036854775808 ≤ v ∧ v ≤ 9223372036854775807
theorem encI_len {v : Int} (h : bd v) : (encI v).length ≤ 10 := enc_length_ten (zz_lt h.1 h.2)
theorem encs_len : ∀ (l : List Int), (∀ v ∈ l, bd v) → (encs l).length ≤ 10 * l.length
  | [], _ => by simp [encs]
  | v :: l, h => by
    have h1 := encs_len l (fun u hu => h u (by simp [hu]))
    have h2 := encI_len (h v (by simp))
    simp only [encs, List.flatMap_cons, List.length_append, List.length_cons] at h1 ⊢
    omega

def NumLRel (B g : Nat) (o : Option Nat) (bs : List UInt8) (xs : List Int) (w : World) (s : Value) (wr : World) : Prop :=
  ∃ (k : Nat) (o1 : Option Nat), k ≤ xs.length ∧ s = .int .i64 k ∧ Wr B wr g 0 o1 (bs ++ encs (xs.take k)) ∧ Only (foot g o) w wr ∧ moved w o o1

set_option maxHeartbeats 400000 in
set_option maxRecDepth 100000 in
theorem numl_ok (B g : Nat) (o : Option Nat) (bs : List UInt8) (A : Option Addr) (n c : Nat) (xs : List Int) (w : World) (h : Wr B w g 0 o bs) (hr : Reads w A n (ints xs)) (hout : 0 < n → outOf (foot g o) A)
    (hx : ∀ v ∈ xs, bd v) (hl : bs.length + 10 * n ≤ 70368744177664) (hBw : B ≤ w.heap.size) :
    Calls Try.prog 17 #[.pointer (some ⟨g, 0, none⟩), .slice A n c] w (PutPost B w g o 0 (bs ++ encs xs)) := by
  have hn : xs.length = n := by have := hr.1; simpa [ints] using this
  subst hn
  have HR := hide hr
  have HX := hide hx
  have HH := hide h
  have HO := hide hout
  clear hr hx h hout
  go_enter Try.func17, Try.ntmps17
  go_wp2_with fail
  go_loopw [8] (fun s wr => NumLRel B g o bs xs w s wr) (fun s _ => xs.length - (intOf s).toNat)
  case atStart => exact ⟨0, o, Nat.zero_le _, rfl, by simpa [encs] using HH.out, Only.refl _ _, moved.refl _ _⟩
  case round =>
    obtain ⟨k, o1, hk, rfl, hw, honly, hmv⟩ := hrel
    have HW := hide hw
    have HO1 := hide honly
    have HM := hide hmv
    clear hw honly hmv
    by_cases hlt : k < xs.length
    · obtain ⟨ad, u, hA, hu, hcell⟩ := HR.out.at_ hlt
      have hcw := HO1.out.cell (p := ad.add k) (by rw [block_of_add]; exact HO.out (by omega) ad hA) hcell
      clear hcell
      have hu2 : u = .int .i64 (xs[k]'hlt) := by
        simp only [ints, List.getElem?_map, List.getElem?_eq_getElem hlt, Option.map_some, Option.some.injEq] at hu
        exact hu.symm
      subst hu2
      clear hu
      subst hA
      obtain ⟨x, hxk⟩ : ∃ x, x = xs[k]'hlt := ⟨_, rfl⟩
      rw [← hxk] at hcw
      have HXK := hide hxk
      clear hxk
      have hc0 : wr.cell? ⟨g, 0, none⟩ = some (.int .i64 0) := by
        obtain ⟨_, v, hb, _⟩ := HW.out
        have := blk_cell hb 0
        simpa using this
      go_wp2_with fail
      refine (wrong_at _ _ _ hc0).mono ?_
      rintro r w1 ⟨rfl, rfl⟩
      go_wp2_with fail
      have hxb : bd x := by have := HX.out (xs[k]'hlt) (List.getElem_mem hlt); rw [HXK.out]; exact this
      have hlen : (bs ++ encs (xs.take k)).length ≤ 70368744177664 := by
        have h1 := encs_len (xs.take k) (fun v hv => HX.out v (List.mem_of_mem_take hv))
        rw [List.length_take] at h1
        rw [List.length_append]
        omega
      have hB1 : B ≤ wr.heap.size := by have := HO1.out.size; omega
      refine (num_any B g 0 o1 _ x wr HW.out hxb.1 hxb.2 hlen hB1).mono ?_
      rintro r w2 ⟨rfl, hp⟩
      have HP := hide hp
      clear hp hlen hxb
      go_wp2
      go_roundw
      case rel =>
        obtain ⟨o2, p1, p2, p3⟩ := HP.out
        refine ⟨k + 1, o2, hlt, by go_num, ?_, only_next HO1.out HM.out p2, HM.out.trans p3 HO1.out.size⟩
        rw [List.take_succ_eq_append_getElem hlt, encs_snoc, ← List.append_assoc, ← HXK.out]
        exact p1
      case measure => simp [intOf]; omega
    · go_wp2
      go_end0
      refine ⟨rfl, o1, ?_, HO1.out, HM.out⟩
      have := HW.out
      rwa [List.take_of_length_le (by omega)] at this

set_option maxRecDepth 100000 in
theorem numl_err (g : Nat) (e : Int) (A : Option Addr) (n c : Nat) (xs : List Int) (w : World) (he : (e != 0) = true) (hc0 : w.cell? ⟨g, 0, none⟩ = some (.int .i64 e)) (hr : Reads w A n (ints xs)) :
    Calls Try.prog 17 #[.pointer (some ⟨g, 0, none⟩), .slice A n c] w fun r w' => r = .returned (.tuple #[]) ∧ w = w' := by
  have hn : xs.length = n := by have := hr.1; simpa [ints] using this
  subst hn
  have HR := hide hr
  clear hr
  go_enter Try.func17, Try.ntmps17
  go_wp2_with fail
  refine wp_loop_once ?_
  by_cases hlt : 0 < xs.length
  · obtain ⟨ad, u, rfl, hu, hcell⟩ := HR.out.at_ hlt
    simp only [ints, List.getElem?_map, List.getElem?_eq_getElem hlt, Option.map_some, Option.some.injEq] at hu
    subst hu
    rw [add_zero_] at hcell
    have hd : decide (0 < xs.length) = true := by simpa using hlt
    go_wp2_with (go_at_call 22; refine (wrong_at _ _ _ hc0).mono ?_; rintro r w1 ⟨rfl, rfl⟩)
    (try simp only [Exit.inBlock, Exit.then]); refine bodyPost_ret (results_none rfl _ _ _) rfl ?_
    exact ⟨rfl, rfl⟩
  · have hd : decide (0 < xs.length) = false := by rw [decide_eq_false_iff_not]; exact hlt
    go_wp2
    go_end0
    exact ⟨rfl, rfl⟩

set_option maxRecDepth 100000 in
theorem numl_nil (A : Option Addr) (n c : Nat) (xs : List Int) (w : World) (hr : Reads w A n (ints xs)) :
    Calls Try.prog 17 #[.pointer none, .slice A n c] w fun r w' => r = .returned (.tuple #[]) ∧ w = w' := by
  have hn : xs.length = n := by have := hr.1; simpa [ints] using this
  subst hn
  have HR := hide hr
  clear hr
  go_enter Try.func17, Try.ntmps17
  go_wp2_with fail
  refine wp_loop_once ?_
  by_cases hlt : 0 < xs.length
  · obtain ⟨ad, u, rfl, hu, hcell⟩ := HR.out.at_ hlt
    simp only [ints, List.getElem?_map, List.getElem?_eq_getElem hlt, Option.map_some, Option.some.injEq] at hu
    subst hu
    rw [add_zero_] at hcell
    have hd : decide (0 < xs.length) = true := by simpa using hlt
    go_wp2
    (try simp only [Exit.inBlock, Exit.then]); refine bodyPost_ret (results_none rfl _ _ _) rfl ?_
    exact ⟨rfl, rfl⟩
  · have hd : decide (0 < xs.length) = false := by rw [decide_eq_false_iff_not]; exact hlt
    go_wp2
    go_end0
    exact ⟨rfl, rfl⟩
end Go.Proofs.Ytjhciobkofnjfaa
