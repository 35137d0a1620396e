/- complinelaw3.WireLengths: the law's walk. -/
import Derived.Test.YtjhciobkofnjfaaAlive3
namespace Go.Proofs.Ytjhciobkofnjfaa
open Go.RowKit WM

def LenRel (m : Nat) (w : World) (s9 s10 : Value) (wr : World) : Prop :=
  ∃ (u k : Nat), s9 = .int .i64 k ∧ s10 = .int .u64 u ∧ u < 18446744073709551616 ∧ k + (enc u).length = m + 1 ∧ wr = w

set_option maxHeartbeats 1600000 in
set_option maxRecDepth 100000 in
theorem lengths_law (v : Int) (s : ByteArray) (w : World) (hv : bd v) (hs : s.size ≤ 140737488355328) :
    Calls Try.prog 3 #[.int .i64 v, .string s] w fun r w' => r = .returned (.bool true) ∧ Below w.heap.size w w' := by
  by_cases hlong : 1000 < s.size
  · have hd : decide (1000 < (s.size : Int)) = true := by rw [decide_eq_true_iff]; omega
    go_enter Try.func3, Try.ntmps3
    go_wp2_with (go_at_call 15; refine (alive3 w).mono ?_; rintro r w1 ⟨rfl, hb⟩)
    go_ret
    exact ⟨rfl, by assumption⟩
  have hd : decide (1000 < (s.size : Int)) = false := by rw [decide_eq_false_iff_not]; omega
  have HV := hide hv
  clear hv
  go_enter Try.func3, Try.ntmps3
  go_wp2_with fail
  refine (newWriter_any w).mono ?_
  rintro r W1 ⟨rfl, hW1⟩
  have h1 := Wr.new w w.heap.size (Nat.le_refl _)
  rw [hW1] at h1
  have B1 : Below w.heap.size w W1 := by rw [← hW1]; exact (Below.refl _ _).alloc (Nat.le_refl _) _
  have s1 : W1.heap.size = w.heap.size + 1 := by rw [← hW1]; simp
  have H1 := hide h1
  have HB1 := hide B1
  have S1 := hide s1
  clear hW1 h1 B1 s1
  go_wp2_with fail
  refine (newWriter_any W1).mono ?_
  rintro r W2 ⟨rfl, hW2⟩
  have h2 := Wr.new W1 w.heap.size (by rw [S1.out]; omega)
  have h1 := H1.out.alloc (.cells #[.int .i64 0, .slice none 0 0] 49)
  rw [hW2] at h2 h1
  have B2 : Below w.heap.size W1 W2 := by rw [← hW2]; exact (Below.refl _ _).alloc (by rw [S1.out]; omega) _
  have s2 : W2.heap.size = w.heap.size + 2 := by rw [← hW2]; simp [S1.out]
  have H1' := hide h1
  have H2 := hide h2
  have HB2 := hide B2
  have S2 := hide s2
  clear hW2 h1 h2 B2 s2 H1
  obtain ⟨g, hg⟩ : ∃ g, g = w.heap.size := ⟨_, rfl⟩
  obtain ⟨q, hq⟩ : ∃ q, q = W1.heap.size := ⟨_, rfl⟩
  have HQ : Hid (q = g + 1) := by rw [hq, hg]; exact S1.out
  rw [← hg] at H1' H2
  rw [← hq] at H2
  have HG := hide hg
  rw [← hg, ← hq]
  clear hq hg
  go_wp2_with fail
  refine (numl_new g g none [] [v] _ 1 W2 H1'.out rfl rfl (by simpa using HV.out) (by decide) (by rw [HG.out, S2.out]; omega)).mono ?_
  rintro r W3 ⟨rfl, o3, h3, k3, m3⟩
  have B3 : Below g W2 W3 := k3.toBelow (by rw [HG.out, S2.out]; omega) H1'.out.base
  have h4 := H2.out.only k3 (by
    intro k hk hk2
    rcases hk with rfl | hk
    · rcases hk2 with h | h
      · have := HQ.out; omega
      · cases h
    · cases hk)
  have H3 := hide h3
  have H4 := hide h4
  have HB3 := hide B3
  have z3 := B3.size
  clear h3 k3 m3 B3 h4
  go_wp2_with fail
  refine (bytes_ok g g o3 _ W3 H3.out).mono ?_
  rintro r W4 ⟨rfl, rfl⟩
  obtain ⟨b, hb⟩ : ∃ b, b = bstr ([] ++ encs [v]) := ⟨_, rfl⟩
  have hbl : b.size = (encI v).length := by rw [hb, bstr_size]; simp [encs]
  have HBL := hide hbl
  rw [← hb]
  clear hb hbl
  go_wp2_with fail
  rw [zz_any HV.out.1 HV.out.2]
  generalize Value.int IntKind.u64 (IntKind.u64.wrap v) = q6
  generalize Value.int IntKind.u64 (IntKind.u64.wrap (IntKind.u64.wrap v * 2)) = q7
  generalize Value.int IntKind.i64 (v / 9223372036854775808) = q9
  generalize Value.int IntKind.u64 (IntKind.u64.wrap (v / 9223372036854775808)) = q10
  go_loopw [9, 10] (fun s9 s10 wr => LenRel b.size W3 s9 s10 wr) (fun _ s10 _ => (intOf s10).toNat)
  case atStart => exact ⟨zz v, 1, rfl, rfl, zz_lt HV.out.1 HV.out.2, by rw [HBL.out]; unfold encI; omega, rfl⟩
  case round =>
    obtain ⟨u, k, rfl, rfl, hu, hk, rfl⟩ := hrel
    have hkb : k ≤ 11 := by
      have h1 := enc_length_ten (zz_lt HV.out.1 HV.out.2)
      have h2 := HBL.out
      unfold encI at h2
      omega
    have HU := hide hu
    have HK := hide hk
    clear hu hk
    by_cases hlt : u < 128
    · have hd2 : decide (128 ≤ (u : Int)) = false := by rw [decide_eq_false_iff_not]; omega
      have hkb2 : k = b.size := by have h := HK.out; rw [enc_lt hlt] at h; simp at h; omega
      subst hkb2
      go_wp2_with fail
      have ht : putTexts [s] (0, []) = (0, encT s) := by simp [putTexts, hlong]
      refine (text_new g q none [] [s] _ 1 _ H4.out rfl rfl (by decide) (by have := S2.out; have := HG.out; omega)).mono ?_
      rintro r W5 ⟨rfl, o5, h5, k5, m5⟩
      rw [ht] at h5
      have B5 := k5.toBelow (B := g) (by have := S2.out; have := HG.out; omega) H4.out.base
      have H5 := hide h5
      have HB5 := hide B5
      clear h5 k5 m5 B5 ht
      go_wp2_with fail
      refine (bytes_ok g q o5 _ W5 H5.out).mono ?_
      rintro r W6 ⟨rfl, rfl⟩
      obtain ⟨c, hc⟩ : ∃ c, c = bstr (encT s) := ⟨_, rfl⟩
      have hcl : c.size = (encI (s.size : Int)).length + s.size := by
        have h2 : s.data.toList.length = s.size := by rw [Array.length_toList]; rfl
        rw [hc, bstr_size]; simp [encT, h2]
      rw [← hc]
      have hz : zz (s.size : Int) = 2 * s.size := by unfold zz; rw [if_pos (by omega)]; omega
      have hlen : (encI (s.size : Int)).length = if s.size ≤ 63 then 1 else 2 := by
        unfold encI
        rw [hz]
        by_cases h63 : s.size ≤ 63
        · rw [if_pos h63, enc_lt (by omega)]; rfl
        · rw [if_neg h63, enc_ge (by omega), enc_lt (by omega)]; rfl
      rw [hlen] at hcl
      have HCL := hide hcl
      have HF : Hid (Below w.heap.size w W5) := by
        have h1 := HB1.out
        have h2 := HB2.out
        have h3 := HB3.out
        have h4 := HB5.out
        rw [HG.out] at h3 h4
        exact ((h1.trans h2).trans h3).trans h4
      clear hc hz hlen hcl
      by_cases h63 : s.size ≤ 63
      · have e1 : ((c.size : Int) == (s.size : Int) + 1) = true := by rw [beq_iff_eq, HCL.out, if_pos h63]; omega
        go_wp2_with (go_at_call 15; refine (alive3 W5).mono ?_; rintro r w1 ⟨rfl, hb⟩)
        go_ret
        exact ⟨rfl, by rename_i hb; exact HF.out.trans (hb.mono HF.out.size)⟩
      · have e1 : ((c.size : Int) == (s.size : Int) + 1) = false := by rw [beq_eq_false_iff_ne, HCL.out, if_neg h63]; omega
        have e2 : decide (63 < (s.size : Int)) = true := by rw [decide_eq_true_iff]; omega
        have e3 : ((c.size : Int) == (s.size : Int) + 2) = true := by rw [beq_iff_eq, HCL.out, if_neg h63]; omega
        go_wp2_with (go_at_call 15; refine (alive3 W5).mono ?_; rintro r w1 ⟨rfl, hb⟩)
        go_ret
        exact ⟨rfl, by rename_i hb; exact HF.out.trans (hb.mono HF.out.size)⟩
    · have hd2 : decide (128 ≤ (u : Int)) = true := by rw [decide_eq_true_iff]; omega
      go_wp2_with fail
      go_roundw
      case rel =>
        refine ⟨u / 128, k + 1, by go_num, by simp, by have := HU.out; omega, ?_, rfl⟩
        have h := HK.out
        rw [enc_ge hlt] at h
        simp at h
        omega
      case measure => simp [intOf]; omega
end Go.Proofs.Ytjhciobkofnjfaa
