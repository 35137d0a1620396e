/- wire.Reader: Text and Bool, where what is read was written. -/
import Derived.Test.YtjhciobkofnjfaaRdEnd
import Derived.Deep.RegionHeld3
namespace Go.Proofs.Ytjhciobkofnjfaa
open Go.RowKit WM

theorem dec_text (s : ByteArray) (rest : List UInt8) (hs : s.size ≤ 1000) : dec 0 (encT s ++ rest) = .ok (zz (s.size : Int)) (encI (s.size : Int)).length := by
  unfold encT
  rw [List.append_assoc]
  exact dec_encI _ (by omega) (by omega)

theorem ext_text (b s : ByteArray) (at_ k : Nat) (rest : List UInt8) (h : b.data.toList.drop at_ = encT s ++ rest) (hk : k = (encI (s.size : Int)).length) : b.extract (at_ + k) (at_ + k + s.size) = s := by
  apply ByteArray.ext
  apply Array.toList_inj.1
  have h2 : b.data.toList.drop (at_ + k) = s.data.toList ++ rest := by
    rw [← List.drop_drop, h, hk, encT, List.append_assoc, List.drop_left]
  have hl : s.data.toList.length = s.size := by rw [Array.length_toList]; rfl
  simp only [ByteArray.data_extract, Array.toList_extract, List.extract]
  rw [h2, show at_ + k + s.size - (at_ + k) = s.size by omega, ← hl, List.take_left]

set_option maxRecDepth 100000 in
theorem rdtext_ok (B g : Nat) (s : ByteArray) (rest : List UInt8) (w : World) (h : RdS B w g 0 (encT s ++ rest)) (hs : s.size ≤ 1000) :
    Calls Try.prog 37 #[.pointer (some ⟨g, 0, none⟩)] w (RPost B w g (.string s) 0 rest) := by
  obtain ⟨b, at_, hr, hl, hz⟩ := h
  obtain ⟨c0, c1, c2, f0, f2⟩ := hr.cells
  have hat := hr.2.2
  have hdl : b.data.toList.length = b.size := by rw [Array.length_toList]; rfl
  have hll := congrArg List.length hl
  have hsl : s.data.toList.length = s.size := by rw [Array.length_toList]; rfl
  have hen : (encI (s.size : Int)).length ≤ 10 := encI_len ⟨by omega, by omega⟩
  obtain ⟨k, hk⟩ : ∃ k, k = (encI (s.size : Int)).length := ⟨_, rfl⟩
  simp only [encT, List.length_append, List.length_drop, hdl, hsl] at hll
  rw [← hk] at hll hen
  have hfit : at_ + k + s.size ≤ b.size := by omega
  have HR := hide hr
  have HL := hide hl
  have HK := hide hk
  clear hr hl hll hdl hsl hk
  go_enter Try.func37, Try.ntmps37
  go_wp2_with (go_at_call 56; refine (off_no _ _ c0).mono ?_; rintro r w1 ⟨rfl, rfl⟩)
  refine (rnum_any g b at_ w hat hz c1 c2).mono ?_
  rintro r w1 ⟨rfl, q, rfl⟩
  rw [← HL.out, dec_text s rest hs, ← HK.out]
  simp only [gotV, uz_zz]
  have d1 : decide (1000 < (s.size : Int)) = false := by rw [decide_eq_false_iff_not]; omega
  have d2 : decide ((s.size : Int) < 0) = false := by rw [decide_eq_false_iff_not]; omega
  have d3 : decide ((b.size : Int) - ((at_ : Int) + (k : Int)) < (s.size : Int)) = false := by rw [decide_eq_false_iff_not]; omega
  go_wp2_with fail
  have hr2 : Rd B ((w.drewN q).setCell ⟨g, 2, none⟩ (.int .i64 ((at_ : Int) + k + s.size))) g 0 b (at_ + k + s.size) := (HR.out.drewN q).setAt (at_ + k + s.size) hfit _ (by simp)
  have ho2 : Only (only1 g) w ((w.drewN q).setCell ⟨g, 2, none⟩ (.int .i64 ((at_ : Int) + k + s.size))) := (only_drewN (only1 g) w q).setCell (p := ⟨g, 2, none⟩) (.inl rfl) _
  generalize (w.drewN q).setCell ⟨g, 2, none⟩ (.int .i64 ((at_ : Int) + k + s.size)) = W2 at hr2 ho2 ⊢
  obtain ⟨k0, k1, k2, _, _⟩ := hr2.cells
  have HR2 := hide hr2
  have HO2 := hide ho2
  clear hr2 ho2 c0 c1 c2 f0 f2 d1 d2 d3
  simp only [Int.natCast_add] at k2
  have b0 : (0 : Int) ≤ (at_ : Int) + (k : Int) := by omega
  have b1 : (at_ : Int) + (k : Int) ≤ (at_ : Int) + (k : Int) + (s.size : Int) := by omega
  have b2 : (at_ : Int) + (k : Int) + (s.size : Int) ≤ (b.size : Int) := by omega
  have b3 : (0 : Int) ≤ (at_ : Int) + (k : Int) + (s.size : Int) := by omega
  go_quiet (fail)
  go_wp2_with fail
  go_ret
  have e := ext_text b s at_ k rest HL.out.symm HK.out
  refine ⟨congrArg (fun x => Ending.returned (.string x)) e, ⟨b, at_ + k + s.size, HR2.out.drewN nq, ?_, hz⟩, HO2.out.drewN nq⟩
  have h2 : b.data.toList.drop (at_ + k) = s.data.toList ++ rest := by
    rw [← List.drop_drop, ← HL.out, HK.out, encT, List.append_assoc, List.drop_left]
  have hl : s.data.toList.length = s.size := by rw [Array.length_toList]; rfl
  rw [← List.drop_drop, h2, ← hl, List.drop_left]

set_option maxRecDepth 100000 in
theorem rdbool_ok (B g : Nat) (x : Bool) (rest : List UInt8) (w : World) (h : RdS B w g 0 (encB x :: rest)) :
    Calls Try.prog 38 #[.pointer (some ⟨g, 0, none⟩)] w (RPost B w g (.bool x) 0 rest) := by
  obtain ⟨b, at_, hr, hl, hz⟩ := h
  obtain ⟨c0, c1, c2, f0, f2⟩ := hr.cells
  have hat := hr.2.2
  have hdl : b.data.toList.length = b.size := by rw [Array.length_toList]; rfl
  have hll := congrArg List.length hl
  simp only [List.length_cons, List.length_drop, hdl] at hll
  have hlt : at_ < b.size := by omega
  have hbx : b[at_]'hlt = encB x ∧ rest = b.data.toList.drop (at_ + 1) := by
    have h1 := drop_byte b at_ hlt
    rw [h1] at hl
    injection hl with e1 e2
    exact ⟨e1.symm, e2⟩
  have hdr := hbx.2
  have hbv : (b[at_]'hlt).toNat = (encB x).toNat := by rw [hbx.1]
  have HR := hide hr
  have HD := hide hdr
  have HV := hide hbv
  clear hr hl hll hdl hbx hdr hbv
  have d1 : ((at_ : Int) == (b.size : Int)) = false := by rw [beq_eq_false_iff_ne]; omega
  go_enter Try.func38, Try.ntmps38
  go_wp2_with (go_at_call 56; refine (off_no _ _ c0).mono ?_; rintro r w1 ⟨rfl, rfl⟩)
  have hv1 : (b[at_]'hlt).toNat ≤ 1 := by rw [HV.out]; cases x <;> decide
  have d2 : decide ((1 : Int) < ((b[at_]'hlt).toNat : Int)) = false := by rw [decide_eq_false_iff_not]; omega
  have b0 : (0 : Int) ≤ (at_ : Int) := by omega
  have b1 : (at_ : Int) < (b.size : Int) := by omega
  go_quiet (fail)
  generalize nq = n1
  go_wp2_with fail
  go_quiet (fail)
  go_wp2_with fail
  have hr2 : Rd B ((w.drewN (n1 + nq)).setCell ⟨g, 2, none⟩ (.int .i64 ((at_ : Int) + 1))) g 0 b (at_ + 1) := (HR.out.drewN _).setAt (at_ + 1) hlt _ (by simp)
  have ho2 : Only (only1 g) w ((w.drewN (n1 + nq)).setCell ⟨g, 2, none⟩ (.int .i64 ((at_ : Int) + 1))) := (only_drewN (only1 g) w _).setCell (p := ⟨g, 2, none⟩) (.inl rfl) _
  generalize (w.drewN (n1 + nq)).setCell ⟨g, 2, none⟩ (.int .i64 ((at_ : Int) + 1)) = W2 at hr2 ho2 ⊢
  obtain ⟨k0, k1, k2, _, _⟩ := hr2.cells
  have HR2 := hide hr2
  have HO2 := hide ho2
  clear hr2 ho2 c0 c1 c2 f0 f2 d1 d2
  simp only [Int.natCast_add] at k2
  go_quiet (fail)
  go_wp2_with fail
  go_ret
  have e : (((b[at_]'hlt).toNat : Int) == 1) = x := by rw [HV.out]; cases x <;> rfl
  exact ⟨congrArg (fun y => Ending.returned (.bool y)) e, ⟨b, at_ + 1, HR2.out.drewN nq, HD.out, hz⟩, HO2.out.drewN nq⟩
end Go.Proofs.Ytjhciobkofnjfaa
