/- complinelaw3.WireCuts: the law's walk. -/
import Derived.Test.YtjhciobkofnjfaaRdEnd
import Derived.Test.YtjhciobkofnjfaaAlive3
import Derived.Test.YtjhciobkofnjfaaOneWay
import Derived.Lib.Strings
namespace Go.Proofs.Ytjhciobkofnjfaa
open Go.RowKit WM

theorem encs_cons (x : Int) (l : List Int) : encs (x :: l) = encI x ++ encs l := by simp [encs]
theorem encs_append (l k : List Int) : encs (l ++ k) = encs l ++ encs k := by simp [encs]
theorem encI_pos (x : Int) : 0 < (encI x).length := enc_length_pos _

/-- The bytes that are left when i numbers were read of what was cut at k. -/
def restOf (xs : List Int) (k i : Nat) : List UInt8 := (encs (xs.drop i)).take (k - (encs (xs.take i)).length)
theorem rest_zero (xs : List Int) (k : Nat) : restOf xs k 0 = (encs xs).take k := by simp [restOf, encs]
theorem rest_all (xs : List Int) (k i : Nat) (h : xs.length ≤ i) : restOf xs k i = [] := by
  rw [restOf, List.drop_of_length_le h]
  simp [encs]
/-- The next number is whole. -/
theorem rest_ok (xs : List Int) (k i : Nat) (hi : i < xs.length) (hb : bd xs[i]) (hk : (encs (xs.take i)).length + (encI xs[i]).length ≤ k) :
    numP (restOf xs k i) = (xs[i], 0, restOf xs k (i + 1)) := by
  have h1 : restOf xs k i = encI xs[i] ++ restOf xs k (i + 1) := by
    unfold restOf
    rw [drop_cons hi, encs_cons, List.take_append, List.take_of_length_le (by omega), List.take_succ_eq_append_getElem hi, encs_snoc, List.length_append]
    congr 2
    omega
  rw [h1, numP_ok (dec_encI _ hb.1 hb.2), uz_zz, List.drop_left]
/-- The next number is cut. -/
theorem rest_cut (xs : List Int) (k i : Nat) (hi : i < xs.length) (hb : bd xs[i]) (h0 : (encs (xs.take i)).length ≤ k) (hk : k < (encs (xs.take i)).length + (encI xs[i]).length) :
    numP (restOf xs k i) = (0, 5, restOf xs k i) := by
  have h1 : restOf xs k i = (encI xs[i]).take (k - (encs (xs.take i)).length) := by
    unfold restOf
    rw [drop_cons hi, encs_cons, List.take_append_of_le_length (by omega)]
  have h2 : encI xs[i] = restOf xs k i ++ (encI xs[i]).drop (k - (encs (xs.take i)).length) := by rw [h1, List.take_append_drop]
  refine numP_err (dec_cut_top hb.1 hb.2 h2 ?_)
  intro h
  have := congrArg List.length h
  rw [List.length_drop] at this
  simp at this
  omega
theorem encs_take_le (xs : List Int) (i : Nat) : (encs (xs.take i)).length ≤ (encs xs).length := by
  have := congrArg List.length (encs_append (xs.take i) (xs.drop i))
  rw [List.take_append_drop, List.length_append] at this
  omega
theorem encs_take_succ (xs : List Int) (i : Nat) (hi : i < xs.length) : (encs (xs.take i)).length + (encI xs[i]).length ≤ (encs xs).length := by
  have := encs_take_le xs (i + 1)
  rw [List.take_succ_eq_append_getElem hi, encs_snoc, List.length_append] at this
  exact this

def CutsRel (B q : Nat) (xs : List Int) (k : Nat) (w : World) (s9 : Value) (wr : World) : Prop :=
  ∃ i : Nat, i ≤ xs.length ∧ s9 = .int .i64 i ∧ RdS B wr q 0 (restOf xs k i) ∧ (encs (xs.take i)).length ≤ k ∧ Below B w wr

set_option maxHeartbeats 1000000 in
set_option maxRecDepth 100000 in
theorem cuts_law (A : Option Addr) (n c : Nat) (xs : List Int) (cut : Int) (w : World) (hr : Reads w A n (ints xs)) (hA : 0 < n → ∀ ad, A = some ad → ad.block < w.heap.size) (hx : ∀ v ∈ xs, bd v) (_hn : n ≤ maxLen) (hcut : bd cut) :
    Calls Try.prog 7 #[.slice A n c, .int .i64 cut] w fun r w' => r = .returned (.bool true) ∧ Below w.heap.size w w' := by
  have hnx : xs.length = n := by have := hr.1; simpa [ints] using this
  by_cases hlong : 60 < n
  · have hd : decide (60 < (n : Int)) = true := by rw [decide_eq_true_iff]; omega
    clear hr hx hA hcut
    go_enter Try.func7, Try.ntmps7
    clear hnx
    go_wp2_with (go_at_call 15; refine (alive3 w).mono ?_; rintro r w1 ⟨rfl, hb⟩)
    go_ret
    exact ⟨rfl, by assumption⟩
  have hd : decide (60 < (n : Int)) = false := by rw [decide_eq_false_iff_not]; omega
  by_cases hneg : cut < 0
  · have hd2 : decide (cut < 0) = true := by rw [decide_eq_true_iff]; exact hneg
    clear hr hx hA hcut
    go_enter Try.func7, Try.ntmps7
    clear hnx
    go_wp2_with (go_at_call 15; refine (alive3 w).mono ?_; rintro r w1 ⟨rfl, hb⟩)
    go_ret
    exact ⟨rfl, by assumption⟩
  have hd2 : decide (cut < 0) = false := by rw [decide_eq_false_iff_not]; exact hneg
  obtain ⟨k, rfl⟩ := Int.eq_ofNat_of_zero_le (Int.not_lt.1 hneg)
  have hk0 : k ≤ 9223372036854775807 := by have := hcut.2; omega
  have HR := hide hr
  have HA := hide hA
  have HX := hide hx
  have HNX := hide hnx
  have HK := hide hk0
  clear hr hA hx hcut hneg hnx hk0
  go_enter Try.func7, Try.ntmps7
  go_wp2_with fail
  refine (newWriter_any w).mono ?_
  rintro r W1 ⟨rfl, hW1⟩
  have h1 := Wr.new w w.heap.size (Nat.le_refl _)
  have r1 : Reads (w.alloc (.cells #[.int .i64 0, .slice none 0 0] 49)) A n (ints xs) := by
    refine ⟨HR.out.1, fun hn => ?_⟩
    obtain ⟨ad, e, hc⟩ := HR.out.2 hn
    exact ⟨ad, e, fun j u hu => ((Only.refl none_ w).alloc _).cell (fun h => h) (hc j u hu)⟩
  have b1 : Below w.heap.size w (w.alloc (.cells #[.int .i64 0, .slice none 0 0] 49)) := (Below.refl _ _).alloc (Nat.le_refl _) _
  rw [hW1] at h1 b1 r1
  have H1 := hide h1
  have B1 := hide b1
  have R1 := hide r1
  clear hW1 h1 b1 r1
  obtain ⟨B, hB⟩ : ∃ B, B = w.heap.size := ⟨_, rfl⟩
  rw [← hB] at H1 HA
  rw [← hB]
  have HBB := hide hB
  clear hB
  go_wp2_with fail
  have hbl : (encs xs).length ≤ 600 := by
    have h1 := encs_len xs HX.out
    have h2 := HNX.out
    omega
  refine (numl_ok B B none [] A n c xs W1 H1.out R1.out (fun hn ad e hf => by
    have h2 := HA.out hn ad e
    rcases hf with h | h
    · omega
    · cases h) HX.out (by simp; omega) (by have := B1.out.size; rw [← HBB.out] at this; exact this)).mono ?_
  rintro r W2 ⟨rfl, o2, h2, k2, m2⟩
  have R2 : Hid (Reads W2 A n (ints xs)) := by
    refine ⟨R1.out.1, fun hn => ?_⟩
    obtain ⟨ad, e, hc⟩ := R1.out.2 hn
    refine ⟨ad, e, fun j u hu => k2.cell ?_ (hc j u hu)⟩
    have h2 := HA.out hn ad e
    rw [block_of_add]
    rintro (h | h)
    · omega
    · cases h
  have B2 := hide (B1.out.trans (k2.toBelow B1.out.size (fun i hi => by rw [← HBB.out]; exact H1.out.base i hi)))
  have H2 := hide h2
  clear h2 k2 m2 R1 B1 H1
  go_wp2_with fail
  refine (bytes_ok B B o2 _ W2 H2.out).mono ?_
  rintro r W3 ⟨rfl, rfl⟩
  obtain ⟨b, hb⟩ : ∃ b, b = bstr ([] ++ encs xs) := ⟨_, rfl⟩
  have hbz : b.size = (encs xs).length := by rw [hb, bstr_size]; simp
  have hbd : b.data.toList = encs xs := by rw [hb, bstr_data]; simp
  rw [← hb]
  have HBZ := hide hbz
  have HBD := hide hbd
  clear hb hbz hbd H2
  by_cases hover : b.size < k
  · have hd3 : decide (b.size < k) = true := by rw [decide_eq_true_iff]; omega
    go_wp2_with (go_at_call 15; refine (alive3 W2).mono ?_; rintro r w1 ⟨rfl, hb⟩)
    go_ret
    exact ⟨rfl, by rename_i hb; exact B2.out.trans (hb.mono B2.out.size)⟩
  have hd3 : decide (b.size < k) = false := by rw [decide_eq_false_iff_not]; omega
  go_wp2_with fail
  have hks : k ≤ (encs xs).length := by have := HBZ.out; omega
  refine (newReader_any B (b.extract 0 k) W2 (by have := HBZ.out; simp [ByteArray.size_extract]; omega) (by rw [HBB.out]; exact B2.out.size)).mono ?_
  rintro r W3 ⟨q, rfl, hq, h3, b3⟩
  have hrest : (b.extract 0 k).data.toList = restOf xs k 0 := by
    rw [rest_zero, ← HBD.out, Lib.extract_data]
    simp
  rw [hrest] at h3
  have H3 := hide h3
  have R3 : Hid (Reads W3 A n (ints xs)) := by
    refine ⟨R2.out.1, fun hn => ?_⟩
    obtain ⟨ad, e, hc⟩ := R2.out.2 hn
    exact ⟨ad, e, fun j u hu => (below_only b3).cell (fun h => h) (hc j u hu)⟩
  have B3 : Hid (Below B w W3) := by rw [HBB.out]; exact B2.out.trans (b3.mono B2.out.size)
  have HS := hide (show B ≤ w.heap.size from by rw [HBB.out]; exact Nat.le_refl _)
  clear h3 b3 hrest B2 R2 hq
  go_wp2_with fail
  go_loopw [9] (fun s9 wr => CutsRel B q xs k w s9 wr) (fun s9 _ => n - (intOf s9).toNat)
  case atStart => exact ⟨0, Nat.zero_le _, rfl, H3.out, by simp [encs], B3.out⟩
  case round =>
    clear H3 R3 B3
    obtain ⟨i, hi, rfl, hrd, hle, hb⟩ := hrel
    have H4 := hide hrd
    have B4 := hide hb
    clear hrd hb
    have hin : i ≤ n := by have := HNX.out; omega
    by_cases hlt : i < xs.length
    · have hlt2 : i < n := by have := HNX.out; omega
      have hdl : decide (i < n) = true := by rw [decide_eq_true_iff]; omega
      have hxb : bd (xs[i]'hlt) := HX.out _ (List.getElem_mem hlt)
      have HXB := hide hxb
      clear hxb
      go_wp2_with fail
      refine (rd_num_ok B q _ wr H4.out).mono ?_
      rintro r W4 ⟨rfl, h4, k4⟩
      have B5 := hide (B4.out.trans (k4.toBelow (B := B) (by have := B4.out.size; have := HS.out; omega) (fun _ h => by unfold only1 at h; subst h; exact H4.out.base)))
      by_cases hwhole : (encs (xs.take i)).length + (encI xs[i]).length ≤ k
      · rw [rest_ok xs k i hlt HXB.out hwhole] at h4 ⊢
        obtain ⟨c4, _⟩ := rd_errCell h4
        have H5 := hide h4
        obtain ⟨ad, u, hA2, hu, hcell⟩ := HR.out.at_ hlt2
        have hlt3 := HA.out (by omega) ad hA2
        have hcw : W4.cell? (ad.add i) = some u := (B5.out.cell (p := ad.add i) (by rw [block_of_add]; exact hlt3)).trans hcell
        have hu2 : u = .int .i64 (xs[i]'hlt) := by
          simp only [ints, List.getElem?_map, List.getElem?_eq_getElem hlt, Option.map_some, Option.some.injEq] at hu
          exact hu.symm
        subst hu2
        subst hA2
        obtain ⟨x, hxd⟩ : ∃ x, x = xs[i]'hlt := ⟨_, rfl⟩
        rw [← hxd] at hcw ⊢
        have HXD := hide hxd
        clear hcell hu hxd h4 k4 hlt3
        go_wp2_with fail
        refine (wrong_at _ _ W4 c4).mono ?_
        rintro r w5 ⟨rfl, rfl⟩
        go_wp2_with fail
        go_roundw
        case rel =>
          refine ⟨i + 1, hlt, by go_num, H5.out, ?_, B5.out⟩
          rw [List.take_succ_eq_append_getElem hlt, encs_snoc, List.length_append]
          exact hwhole
        case measure => simp [intOf]; omega
      · rw [rest_cut xs k i hlt HXB.out hle (by omega)] at h4 ⊢
        obtain ⟨c4, _⟩ := rd_errCell h4
        have H5 := hide h4
        have hsh : decide (k < b.size) = true := by
          have h1 := encs_take_succ xs i hlt
          have h2 := HBZ.out
          rw [decide_eq_true_iff]; omega
        clear h4 k4
        go_wp2_with fail
        refine (wrong_at _ _ W4 c4).mono ?_
        rintro r w5 ⟨rfl, rfl⟩
        go_wp2_with fail
        refine (alive3 W4).mono ?_
        rintro r W5 ⟨rfl, b5⟩
        have c5 := (rd_errCell (H5.out.only (below_only b5) (fun h => h))).1
        have B6 : Hid (Below B w W5) := B5.out.trans (b5.mono (by have := B5.out.size; have := HS.out; omega))
        clear b5 c4
        go_wp2_with fail
        refine (wrong_at _ _ W5 c5).mono ?_
        rintro r w6 ⟨rfl, rfl⟩
        go_wp2_with fail
        go_ret
        exact ⟨rfl, by rw [← HBB.out]; exact B6.out⟩
    · have hdl : decide (i < n) = false := by have := HNX.out; rw [decide_eq_false_iff_not]; omega
      go_wp2_with fail
      refine (alive3 wr).mono ?_
      rintro r W5 ⟨rfl, b5⟩
      have H6 := H4.out.only (below_only b5) (fun h => h)
      rw [rest_all xs k i (by omega)] at H6
      have H7 := hide H6
      have B6 : Hid (Below B w W5) := B4.out.trans (b5.mono (by have := B4.out.size; have := HS.out; omega))
      have heq : ((k : Int) == (b.size : Int)) = true := by
        rw [List.take_of_length_le (by omega)] at hle
        have h2 := HBZ.out
        rw [beq_iff_eq]; omega
      have heq2 : (k == b.size) = true := by rw [beq_iff_eq] at heq ⊢; omega
      clear b5 H6
      go_wp2_with fail
      refine (rd_end B q _ _ W5 H7.out).mono ?_
      rintro r W6 ⟨rfl, k6⟩
      rw [show endP 0 [] = 0 from rfl]
      have B7 : Hid (Below B w W6) := B6.out.trans (only_none_below k6 (by have := B6.out.size; have := HS.out; omega))
      clear k6
      go_wp2_with fail
      go_ret
      exact ⟨rfl, by rw [← HBB.out]; exact B7.out⟩
end Go.Proofs.Ytjhciobkofnjfaa
