/- (*complineref1.Writer): Num, Text. -/
import Derived.Test.YtjhciobkofnjfaaRef
namespace Go.Proofs.Ytjhciobkofnjfaa
open Go.RowKit WM

def RfNumRel (B g : Nat) (o : Option Nat) (all : List UInt8) (w : World) (s : Value) (wr : World) : Prop :=
  ∃ (n : Nat) (o1 : Option Nat) (bs1 : List UInt8), s = .int .u64 n ∧ n < 18446744073709551616 ∧ WrR B wr g 0 o1 bs1 ∧ bs1 ++ enc n = all ∧ Only (foot g o) w wr ∧ moved w o o1

set_option maxHeartbeats 400000 in
set_option maxRecDepth 100000 in
theorem rfnum_ok (B g : Nat) (o : Option Nat) (bs : List UInt8) (v : Int) (w : World) (h : WrR B w g 0 o bs) (h1 : -9223372036854775808 ≤ v) (h2 : v ≤ 9223372036854775807) (hl : bs.length ≤ 70368744177664) (hBw : B ≤ w.heap.size) :
    Calls Try.prog 26 #[.pointer (some ⟨g, 0, none⟩), .int .i64 v] w (PutRPost B w g o 0 (bs ++ encI v)) := by
  obtain ⟨hc0, hf0⟩ := h.errCell
  go_enter Try.func26, Try.ntmps26
  by_cases hneg : v < 0
  · have hd : decide (v < 0) = true := by rw [decide_eq_true_iff]; exact hneg
    go_wp2_with fail
    have e : -(v + 1) * 2 + 1 = ((zz v : Nat) : Int) := by unfold zz; split <;> omega
    rw [e]
    clear e
    generalize Value.int IntKind.u64 (IntKind.u64.wrap v) = q11
    generalize Value.int IntKind.u64 (IntKind.u64.wrap (IntKind.u64.wrap v * 2)) = q12
    generalize Value.int IntKind.i64 (v + 1) = q16
    generalize Value.int IntKind.i64 (-(v + 1)) = q17
    generalize Value.int IntKind.u64 (-(v + 1)) = q18
    generalize Value.int IntKind.u64 (-(v + 1) * 2) = q19
    go_loopw [4] (fun s wr => RfNumRel B g o (bs ++ encI v) w s wr) (fun s _ => (intOf s).toNat)
    case atStart => exact ⟨zz v, o, bs, rfl, zz_lt h1 h2, h, rfl, Only.refl _ _, moved.refl _ _⟩
    case round =>
      obtain ⟨n, o1, bs1, rfl, hn, hw, heq, honly, hmv⟩ := hrel
      obtain ⟨hB, vv, hb, hown, ho⟩ := hw
      obtain ⟨A, c, rfl⟩ := own_slice hown
      have hc1 := blk_cell hb 0
      have hf1 := blk_frozen hb 0
      simp at hc1
      have HN := hide hn
      have HOB := hide ho
      have HE := hide heq
      have HO := hide honly
      have HM := hide hmv
      have HW := hide hown
      have HB := hide hb
      have H1 := hide h1
      have H2 := hide h2
      have HH := hide h
      clear ho hn heq honly hmv hown hb h1 h2 h hd hneg
      have hbnd : bs1.length ≤ 140737488355000 := by
        have h3 := congrArg List.length HE.out
        have h4 := enc_length_ten (zz_lt H1.out H2.out)
        simp only [List.length_append, encI] at h3
        omega
      by_cases hlt : n < 128
      · have hd : decide (128 ≤ (n : Int)) = false := by simp; omega
        go_wp2_with (at_builtin; refine wp_append_one wr rfl (.tmp 42) (.tmp 45) 45 5 rfl Try.underlying45 (.int .u8 0) 1 info5 rfl B _ _ _ (.int .u8 (n : Int)) rfl rfl rfl HW.out ?c1 (by omega) (by omega) ?_)
        case c1 => have := HO.out.size; omega
        intro v' w' hown' hgr hwh
        obtain ⟨A', c', rfl⟩ := own_slice hown'
        obtain ⟨k1, k2⟩ := putR_cell HB.out HW.out hgr
        have G := hide hown'
        have G2 := hide hgr
        have G3 := hide hwh
        clear hown' hgr hwh
        go_wp2
        go_end0
        refine ⟨rfl, ?_⟩
        have e1 : bcells bs1 ++ [Value.int IntKind.u8 (n : Int)] = bcells (bs ++ encI v) := by
          rw [← HE.out, enc_lt hlt, bcells_append]
          simp [bcells, toNat_ofNat_lt (show n < 256 by omega)]
        have G1 := G.out
        rw [e1] at G1
        exact putR_step HO.out HM.out hB HB.out HW.out HOB.out G1 G2.out G3.out
      · have hd : decide (128 ≤ (n : Int)) = true := by simp; omega
        go_wp2_with (at_builtin; refine wp_append_one wr rfl (.tmp 27) (.tmp 32) 45 5 rfl Try.underlying45 (.int .u8 0) 1 info5 rfl B _ _ _ (.int .u8 ((n : Int) % 128 + 128)) rfl rfl rfl HW.out ?c1 (by omega) (by omega) ?_)
        case c1 => have := HO.out.size; omega
        intro v' w' hown' hgr hwh
        obtain ⟨A', c', rfl⟩ := own_slice hown'
        obtain ⟨k1, k2⟩ := putR_cell HB.out HW.out hgr
        have G := hide hown'
        have G2 := hide hgr
        have G3 := hide hwh
        clear hown' hgr hwh
        go_wp2
        go_roundw
        case rel =>
          have e1 : bcells bs1 ++ [Value.int IntKind.u8 ((n : Int) % 128 + 128)] = bcells (bs1 ++ [UInt8.ofNat (n % 128 + 128)]) := by
            rw [bcells_append]
            simp [bcells]
            omega
          have G1 := G.out
          rw [e1] at G1
          obtain ⟨o2, p1, p2, p3⟩ := putR_step HO.out HM.out hB HB.out HW.out HOB.out G1 G2.out G3.out
          refine ⟨n / 128, o2, _, ?_, by have := HN.out; omega, p1, ?_, p2, p3⟩
          · have hwr : IntKind.u64.wrap ((n : Int) / 128) = (n : Int) / 128 := by have := HN.out; rw [IntKind.wrap_u64]; omega
            simp [hwr]
          · rw [← HE.out, enc_ge hlt]
            simp
        case measure =>
          have hwr : IntKind.u64.wrap ((n : Int) / 128) = (n : Int) / 128 := by have := HN.out; rw [IntKind.wrap_u64]; omega
          simp [intOf, hwr]
          omega
  · have hd : decide (v < 0) = false := by rw [decide_eq_false_iff_not]; exact hneg
    go_wp2_with fail
    have e : v * 2 = ((zz v : Nat) : Int) := by unfold zz; split <;> omega
    rw [e]
    clear e
    generalize Value.int IntKind.u64 v = q11
    go_loopw [4] (fun s wr => RfNumRel B g o (bs ++ encI v) w s wr) (fun s _ => (intOf s).toNat)
    case atStart => exact ⟨zz v, o, bs, rfl, zz_lt h1 h2, h, rfl, Only.refl _ _, moved.refl _ _⟩
    case round =>
      obtain ⟨n, o1, bs1, rfl, hn, hw, heq, honly, hmv⟩ := hrel
      obtain ⟨hB, vv, hb, hown, ho⟩ := hw
      obtain ⟨A, c, rfl⟩ := own_slice hown
      have hc1 := blk_cell hb 0
      have hf1 := blk_frozen hb 0
      simp at hc1
      have HN := hide hn
      have HOB := hide ho
      have HE := hide heq
      have HO := hide honly
      have HM := hide hmv
      have HW := hide hown
      have HB := hide hb
      have H1 := hide h1
      have H2 := hide h2
      have HH := hide h
      clear ho hn heq honly hmv hown hb h1 h2 h hd hneg
      have hbnd : bs1.length ≤ 140737488355000 := by
        have h3 := congrArg List.length HE.out
        have h4 := enc_length_ten (zz_lt H1.out H2.out)
        simp only [List.length_append, encI] at h3
        omega
      by_cases hlt : n < 128
      · have hd : decide (128 ≤ (n : Int)) = false := by simp; omega
        go_wp2_with (at_builtin; refine wp_append_one wr rfl (.tmp 42) (.tmp 45) 45 5 rfl Try.underlying45 (.int .u8 0) 1 info5 rfl B _ _ _ (.int .u8 (n : Int)) rfl rfl rfl HW.out ?c1 (by omega) (by omega) ?_)
        case c1 => have := HO.out.size; omega
        intro v' w' hown' hgr hwh
        obtain ⟨A', c', rfl⟩ := own_slice hown'
        obtain ⟨k1, k2⟩ := putR_cell HB.out HW.out hgr
        have G := hide hown'
        have G2 := hide hgr
        have G3 := hide hwh
        clear hown' hgr hwh
        go_wp2
        go_end0
        refine ⟨rfl, ?_⟩
        have e1 : bcells bs1 ++ [Value.int IntKind.u8 (n : Int)] = bcells (bs ++ encI v) := by
          rw [← HE.out, enc_lt hlt, bcells_append]
          simp [bcells, toNat_ofNat_lt (show n < 256 by omega)]
        have G1 := G.out
        rw [e1] at G1
        exact putR_step HO.out HM.out hB HB.out HW.out HOB.out G1 G2.out G3.out
      · have hd : decide (128 ≤ (n : Int)) = true := by simp; omega
        go_wp2_with (at_builtin; refine wp_append_one wr rfl (.tmp 27) (.tmp 32) 45 5 rfl Try.underlying45 (.int .u8 0) 1 info5 rfl B _ _ _ (.int .u8 ((n : Int) % 128 + 128)) rfl rfl rfl HW.out ?c1 (by omega) (by omega) ?_)
        case c1 => have := HO.out.size; omega
        intro v' w' hown' hgr hwh
        obtain ⟨A', c', rfl⟩ := own_slice hown'
        obtain ⟨k1, k2⟩ := putR_cell HB.out HW.out hgr
        have G := hide hown'
        have G2 := hide hgr
        have G3 := hide hwh
        clear hown' hgr hwh
        go_wp2
        go_roundw
        case rel =>
          have e1 : bcells bs1 ++ [Value.int IntKind.u8 ((n : Int) % 128 + 128)] = bcells (bs1 ++ [UInt8.ofNat (n % 128 + 128)]) := by
            rw [bcells_append]
            simp [bcells]
            omega
          have G1 := G.out
          rw [e1] at G1
          obtain ⟨o2, p1, p2, p3⟩ := putR_step HO.out HM.out hB HB.out HW.out HOB.out G1 G2.out G3.out
          refine ⟨n / 128, o2, _, ?_, by have := HN.out; omega, p1, ?_, p2, p3⟩
          · have hwr : IntKind.u64.wrap ((n : Int) / 128) = (n : Int) / 128 := by have := HN.out; rw [IntKind.wrap_u64]; omega
            simp [hwr]
          · rw [← HE.out, enc_ge hlt]
            simp
        case measure =>
          have hwr : IntKind.u64.wrap ((n : Int) / 128) = (n : Int) / 128 := by have := HN.out; rw [IntKind.wrap_u64]; omega
          simp [intOf, hwr]
          omega

set_option maxRecDepth 100000 in
theorem rftext_err (g : Nat) (e : Int) (s : ByteArray) (w : World) (he : (e == 0) = false) (hc0 : w.cell? ⟨g, 1, none⟩ = some (.int .i64 e)) (hs : s.size ≤ 70368744177664) :
    Calls Try.prog 29 #[.pointer (some ⟨g, 0, none⟩), .string s] w fun r w' => r = .returned (.tuple #[]) ∧ w = w' := by
  go_enter Try.func29, Try.ntmps29
  by_cases hlong : 1000 < s.size
  · have hd : decide (1000 < (s.size : Int)) = true := by rw [decide_eq_true_iff]; omega
    go_wp2_with (go_at_call 34; refine (rfail_off _ _ _ _ he hc0).mono ?_; rintro r w1 ⟨rfl, rfl⟩)
    go_end0
    exact ⟨rfl, rfl⟩
  · have hd : decide (1000 < (s.size : Int)) = false := by rw [decide_eq_false_iff_not]; omega
    go_wp2_with fail
    go_end0
    exact ⟨rfl, rfl⟩

set_option maxRecDepth 100000 in
theorem rftext_ok (B g : Nat) (o : Option Nat) (bs : List UInt8) (x : ByteArray) (w : World) (h : WrR B w g 0 o bs) (hl : bs.length + 1010 ≤ 70368744177664) (hs : x.size ≤ 70368744177664) (hBw : B ≤ w.heap.size) :
    Calls Try.prog 29 #[.pointer (some ⟨g, 0, none⟩), .string x] w (PutRPost B w g o (if 1000 < x.size then 2 else 0) (if 1000 < x.size then bs else bs ++ encT x)) := by
  obtain ⟨hc0, hf0⟩ := h.errCell
  have HH := hide h
  clear h
  go_enter Try.func29, Try.ntmps29
  by_cases hlong : 1000 < x.size
  · have hd : decide (1000 < (x.size : Int)) = true := by rw [decide_eq_true_iff]; omega
    go_wp2_with (go_at_call 34; refine (rfail_set _ _ _ hc0 hf0).mono ?_; rintro r w1 ⟨rfl, rfl⟩)
    go_end0
    exact ⟨rfl, o, HH.out.setErr, (Only.refl _ _).setCell (.inl (.inl rfl)) _, moved.refl _ _⟩
  · have hd : decide (1000 < (x.size : Int)) = false := by rw [decide_eq_false_iff_not]; omega
    go_wp2_with fail
    refine (rfnum_ok B g o bs _ w HH.out (by omega) (by omega) (by omega) hBw).mono ?_
    rintro r w2 ⟨rfl, o2, hw2, p2, p3⟩
    have HP2 := hide p2
    have HP3 := hide p3
    clear p2 p3
    obtain ⟨bs2, hbs2⟩ : ∃ b, b = bs ++ encI (x.size : Int) := ⟨_, rfl⟩
    rw [← hbs2] at hw2
    have hl2 : bs2.length + x.size ≤ 140737488355328 := by
      have h1 := encT_len (s := x) (by omega)
      rw [hbs2]
      simp only [encT, List.length_append] at h1 ⊢
      omega
    have HBS := hide hbs2
    clear hbs2
    obtain ⟨hB, v, hb, hown, ho⟩ := hw2
    obtain ⟨A2, c2, rfl⟩ := own_slice hown
    have hc1 := blk_cell hb 0
    have hf1 := blk_frozen hb 0
    simp at hc1
    have HB := hide hb
    have HOW := hide hown
    have HOB := hide ho
    have hB2 : B ≤ w2.heap.size := by have := HP2.out.size; omega
    clear hb hown ho
    go_wp2_with (at_builtin; refine wp_append_str w2 rfl (.tmp 22) (.tmp 23) 45 9 5 rfl Try.underlying45 Try.underlying9 info5 B _ _ bs2 x rfl rfl HOW.out hB2 hl2 ?_)
    intro v' w' hown' hgr hwh
    obtain ⟨A', c', rfl⟩ := own_slice hown'
    obtain ⟨k1, k2⟩ := putR_cell HB.out HOW.out hgr
    have G := hide hown'
    have G2 := hide hgr
    have G3 := hide hwh
    clear hown' hgr hwh
    go_wp2
    go_end0
    refine ⟨rfl, ?_⟩
    obtain ⟨o3, p4, p5, p6⟩ := putR_step HP2.out HP3.out hB HB.out HOW.out HOB.out G.out G2.out G3.out
    refine ⟨o3, ?_, p5, p6⟩
    have e1 : bs ++ encT x = bs2 ++ x.data.toList := by rw [HBS.out, List.append_assoc]; rfl
    rw [e1]
    exact p4
end Go.Proofs.Ytjhciobkofnjfaa
