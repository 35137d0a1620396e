/- complinelaw3.Light: are steps few and short enough? -/
import Derived.Test.YtjhciobkofnjfaaRoom
import Derived.Test.YtjhciobkofnjfaaOpenOps
import Derived.Deep.RegionHeld3
namespace Go.Proofs.Ytjhciobkofnjfaa
open Go.RowKit WM

def szT (l : List ByteArray) : Int := (l.map fun s => (s.size : Int)).sum
def szOp (x : OpD) : Int := x.N.length + x.B.length + x.T.length + szT x.T
def szOps (l : List OpD) : Int := (l.map szOp).sum
theorem szT_snoc (l : List ByteArray) (s : ByteArray) : szT (l ++ [s]) = szT l + s.size := by simp [szT]
theorem szOps_snoc (l : List OpD) (x : OpD) : szOps (l ++ [x]) = szOps l + szOp x := by simp [szOps]
theorem szT_nonneg (l : List ByteArray) : 0 ≤ szT l := by
  induction l with
  | nil => simp [szT]
  | cons s l ih => simp only [szT, List.map_cons, List.sum_cons] at ih ⊢; omega

theorem add_field (ad : Addr) (m j : Nat) (hj : 0 < j) : ad.add (m + j) = ⟨(ad.add m).block, (ad.add m).off + j, none⟩ := by
  have hm : ¬ (m + j = 0) := by omega
  by_cases h0 : m = 0
  · subst h0
    simp only [Addr.add, Nat.zero_add, if_neg (show ¬ j = 0 by omega), if_true]
  · simp only [Addr.add, if_neg hm, if_neg h0, Nat.add_assoc]

/-- What is read of element i: its three slices. -/
theorem op_at {w : World} {A : Option Addr} {n c : Nat} {xs : List OpD} (h : SliceOf w 4 (isOp w) A n c xs) {i : Nat} (hi : i < xs.length) :
    ∃ (ad : Addr) (AN AT AB : Option Addr) (cN cT cB : Nat), A = some ad ∧ ad.block < w.heap.size ∧ (ad.add (i * 4)).block < w.heap.size ∧
      w.cell? (ad.add (i * 4)) = some (.int .i64 xs[i].kind) ∧ bd xs[i].kind ∧
      w.cell? ⟨(ad.add (i * 4)).block, (ad.add (i * 4)).off + 1, none⟩ = some (.slice AN xs[i].N.length cN) ∧
      w.cell? ⟨(ad.add (i * 4)).block, (ad.add (i * 4)).off + 2, none⟩ = some (.slice AT xs[i].T.length cT) ∧
      w.cell? ⟨(ad.add (i * 4)).block, (ad.add (i * 4)).off + 3, none⟩ = some (.slice AB xs[i].B.length cB) ∧
      SliceOf w 1 isInt AN xs[i].N.length cN xs[i].N ∧ SliceOf w 1 isStr AT xs[i].T.length cT xs[i].T ∧ SliceOf w 1 isBool AB xs[i].B.length cB xs[i].B := by
  obtain ⟨ad, hA, hb, hc⟩ := h.cells (by have := h.len; omega)
  obtain ⟨cs, hcl, hat, AN, AT, AB, nN, cN, nT, cT, nB, cB, rfl, hk, s1, s2, s3⟩ := hc i hi
  have e1 := s1.len
  have e2 := s2.len
  have e3 := s3.len
  subst e1 e2 e3
  refine ⟨ad, AN, AT, AB, cN, cT, cB, hA, hb, by rw [block_of_add]; exact hb, ?_, hk, ?_, ?_, ?_, s1, s2, s3⟩
  · have := hat 0 (by omega); simpa using this
  · rw [← add_field _ _ _ (by omega)]; have := hat 1 (by omega); simpa using this
  · rw [← add_field _ _ _ (by omega)]; have := hat 2 (by omega); simpa using this
  · rw [← add_field _ _ _ (by omega)]; have := hat 3 (by omega); simpa using this

theorem room3 (R a b c : Int) : 0 ≤ roomP R [a, b, c] → roomP R [a, b, c] = R - a - b - c := by
  intro h
  have := (roomP_sum _ _ h).2
  simp at this
  omega

theorem room_new3 (R a b c : Int) (W : World) (h0 : -1 ≤ R) (h1 : R ≤ 9000) (ha : 0 ≤ a) (hb : 0 ≤ b) (hc : 0 ≤ c) :
    Calls Try.prog 58 #[.int .i64 R, .slice (some ⟨W.heap.size, 0, none⟩) 3 3] ((W.alloc (.cells #[.int .i64 a, .int .i64 b, .int .i64 c] 3)).drew) fun r w' => r = .returned (.int .i64 (roomP R [a, b, c])) ∧ ((W.alloc (.cells #[.int .i64 a, .int .i64 b, .int .i64 c] 3)).drew) = w' :=
  room_any R _ 3 3 [a, b, c] _ (reads_new W 3 #[.int .i64 a, .int .i64 b, .int .i64 c]) (by simp; omega) h0 h1 (by omega)
theorem room_new1 (R a : Int) (W : World) (h0 : -1 ≤ R) (h1 : R ≤ 9000) (ha : 0 ≤ a) :
    Calls Try.prog 58 #[.int .i64 R, .slice (some ⟨W.heap.size, 0, none⟩) 1 1] (W.alloc (.cells #[.int .i64 a] 3)) fun r w' => r = .returned (.int .i64 (roomP R [a])) ∧ (W.alloc (.cells #[.int .i64 a] 3)) = w' :=
  room_any R _ 1 1 [a] _ (reads_new W 3 #[.int .i64 a]) (by simp; omega) h0 h1 (by omega)

theorem below_new {w wr : World} (h : Below w.heap.size w wr) (o : Obj) : Below w.heap.size w (wr.alloc o).drew :=
  h.trans ((((Only.refl (fun _ => False) wr).alloc o).drew).toBelow h.size (fun _ h => h.elim))
theorem below_new_ {w wr : World} (h : Below w.heap.size w wr) (o : Obj) : Below w.heap.size w (wr.alloc o) :=
  h.trans (((Only.refl (fun _ => False) wr).alloc o).toBelow h.size (fun _ h => h.elim))

def LightRel (xs : List OpD) (w : World) (s3 s4 : Value) (wr : World) : Prop :=
  ∃ (i : Nat) (R : Int), i ≤ xs.length ∧ s4 = .int .i64 i ∧ s3 = .int .i64 R ∧ -1 ≤ R ∧ R ≤ 9000 ∧ (0 ≤ R → R = 9000 - szOps (xs.take i)) ∧ Below w.heap.size w wr
def LightIn (T : List ByteArray) (base : Int) (w : World) (s3 s5 : Value) (wr : World) : Prop :=
  ∃ (k : Nat) (R : Int), k ≤ T.length ∧ s5 = .int .i64 k ∧ s3 = .int .i64 R ∧ -1 ≤ R ∧ R ≤ 9000 ∧ (0 ≤ R → R = base - szT (T.take k)) ∧ Below w.heap.size w wr
def LightPost (xs : List OpD) (w : World) (r : Ending) (w' : World) : Prop :=
  ∃ b : Bool, r = .returned (.bool b) ∧ (b = true → xs.length ≤ 100 ∧ szOps xs ≤ 9000) ∧ Below w.heap.size w w'

set_option maxHeartbeats 800000 in
set_option maxRecDepth 100000 in
theorem light_any (A : Option Addr) (n c : Nat) (xs : List OpD) (w : World) (hs : SliceOf w 4 (isOp w) A n c xs) :
    Calls Try.prog 24 #[.slice A n c] w (LightPost xs w) := by
  have hnx := hs.len
  have hmx := hs.max
  have hcp := hs.cap
  unfold maxLen at hmx
  subst hnx
  have HS := hide hs
  clear hs
  go_enter Try.func24, Try.ntmps24
  go_wp2_with fail
  go_loopw [3, 4] (fun s3 s4 wr => LightRel xs w s3 s4 wr) (fun _ s4 _ => xs.length - (intOf s4).toNat)
  case atStart => exact ⟨0, 9000, Nat.zero_le _, rfl, rfl, by omega, by omega, by simp [szOps], Below.refl _ _⟩
  case round =>
    obtain ⟨i, R, hi, rfl, rfl, h0, h1, hR, hb⟩ := hrel
    have HB := hide hb
    have HRR := hide hR
    clear hb hR
    by_cases hlt : i < xs.length
    · have d1 : decide (i < xs.length) = true := by rw [decide_eq_true_iff]; exact hlt
      by_cases h200 : i < 200
      · have d2 : decide ((i : Int) < 200) = true := by rw [decide_eq_true_iff]; omega
        by_cases hneg : R < 0
        · have d3 : decide (0 ≤ R) = false := by rw [decide_eq_false_iff_not]; omega
          by_cases hl : xs.length ≤ 100
          · have d5 : decide ((xs.length : Int) ≤ 100) = true := by rw [decide_eq_true_iff]; omega
            go_wp2_with fail
            go_ret
            exact ⟨false, rfl, (fun h => by cases h), HB.out⟩
          · have d5 : decide ((xs.length : Int) ≤ 100) = false := by rw [decide_eq_false_iff_not]; omega
            go_wp2_with fail
            go_ret
            exact ⟨false, rfl, (fun h => by cases h), HB.out⟩
        · have d3 : decide (0 ≤ R) = true := by rw [decide_eq_true_iff]; omega
          obtain ⟨ad, AN, AT, AB, cN, cT, cB, rfl, hblk, hblk2, hck, hkb, hcN, hcT, hcB, sN, sT, sB⟩ := op_at HS.out hlt
          obtain ⟨x, hx⟩ : ∃ x, x = xs[i]'hlt := ⟨_, rfl⟩
          rw [← hx] at hcN hcT hcB sN sT sB
          have cN' := (HB.out.cell (p := ⟨(ad.add (i * 4)).block, (ad.add (i * 4)).off + 1, none⟩) hblk2).trans hcN
          have cT' := (HB.out.cell (p := ⟨(ad.add (i * 4)).block, (ad.add (i * 4)).off + 2, none⟩) hblk2).trans hcT
          have cB' := (HB.out.cell (p := ⟨(ad.add (i * 4)).block, (ad.add (i * 4)).off + 3, none⟩) hblk2).trans hcB
          have HX := hide hx
          have HCT := hide hcT
          have SN := hide sN
          have ST := hide sT
          have SB := hide sB
          clear hcN hcT hcB hck hkb hx sN sT sB
          go_wp2_with fail
          have CR := room_new3 R x.N.length x.B.length x.T.length wr (by omega) (by omega) (by omega) (by omega) (by omega)
          go_region_held3 (fun w' => w'.cell? ⟨(ad.add (i * 4)).block, (ad.add (i * 4)).off + 1, none⟩ = some (.slice AN x.N.length cN) ∧ w'.cell? ⟨(ad.add (i * 4)).block, (ad.add (i * 4)).off + 2, none⟩ = some (.slice AT x.T.length cT) ∧ w'.cell? ⟨(ad.add (i * 4)).block, (ad.add (i * 4)).off + 3, none⟩ = some (.slice AB x.B.length cB)) (go_keep) (first | (go_at_call 58; refine CR.mono ?_; rintro r w' ⟨rfl, rfl⟩))
          have hbw : Below w.heap.size w ((wr.alloc (.cells #[.int .i64 x.N.length, .int .i64 x.B.length, .int .i64 x.T.length] 3)).drew) := below_new HB.out _
          obtain ⟨W1, hW1⟩ : ∃ W1, W1 = ((wr.alloc (.cells #[.int .i64 x.N.length, .int .i64 x.B.length, .int .i64 x.T.length] 3)).drew) := ⟨_, rfl⟩
          rw [← hW1] at hbw ⊢
          clear hW1 cN' cT' cB'
          have hbd := roomP_bd [(x.N.length : Int), x.B.length, x.T.length] R (by simp) (by omega) (by omega)
          have HR3 := hide (room3 R x.N.length x.B.length x.T.length)
          obtain ⟨R1, hR1⟩ : ∃ R1, R1 = roomP R [(x.N.length : Int), x.B.length, x.T.length] := ⟨_, rfl⟩
          rw [← hR1] at hbd HR3 ⊢
          clear hR1
          have HBW := hide hbw
          clear hbw
          go_wp2_with fail
          go_loopw [3, 5] (fun s3 s5 wr => LightIn x.T (9000 - szOps (xs.take i) - x.N.length - x.B.length - x.T.length) w s3 s5 wr) (fun _ s5 _ => x.T.length - (intOf s5).toNat)
          case atStart =>
            refine ⟨0, R1, Nat.zero_le _, rfl, rfl, hbd.1, hbd.2, (fun h => ?_), HBW.out⟩
            have h2 := HR3.out h
            have h3 := HRR.out (by omega)
            simp only [List.take_zero, szT, List.map_nil, List.sum_nil]
            omega
          case round =>
            clear hbd HR3 HBW
            obtain ⟨k, R2, hk, rfl, rfl, k0, k1, hkR, hc⟩ := hrel
            have HC := hide hc
            have HKR := hide hkR
            clear hc hkR
            have cT' := (HC.out.cell (p := ⟨(ad.add (i * 4)).block, (ad.add (i * 4)).off + 2, none⟩) hblk2).trans HCT.out
            by_cases hkl : k < x.T.length
            · have e1 : decide (k < x.T.length) = true := by rw [decide_eq_true_iff]; exact hkl
              by_cases hn : R2 < 0
              · have e2 : decide (0 ≤ R2) = false := by rw [decide_eq_false_iff_not]; omega
                go_wp2_with fail
                go_roundw
                case rel => exact ⟨i + 1, R2, hlt, by go_num, rfl, k0, k1, (fun h => by omega), HC.out⟩
                case measure => simp [intOf]; omega
              · have e2 : decide (0 ≤ R2) = true := by rw [decide_eq_true_iff]; omega
                obtain ⟨at_, u, rfl, hu, hcell⟩ := (ST.out.reads).at_ hkl
                have hu2 : u = .string x.T[k] := by
                  simp only [List.getElem?_map, List.getElem?_eq_getElem hkl, Option.map_some, Option.some.injEq] at hu
                  exact hu.symm
                subst hu2
                clear hu
                have hcb := ST.out.block (by omega) at_ rfl
                have cK := (HC.out.cell (p := at_.add k) (by rw [block_of_add]; exact hcb)).trans hcell
                clear hcell hcb
                have hTm : x.T.length ≤ 2 ^ 63 - 1 := by have h2 := ST.out.max; have h3 := ST.out.cap; unfold maxLen at h2; omega
                have CR := room_new1 R2 x.T[k].size wr (by omega) (by omega) (by omega)
                go_wp2_with fail
                refine CR.mono ?_
                rintro r w' ⟨rfl, rfl⟩
                go_wp2_with fail
                have HRS := hide (roomP_sum [(x.T[k].size : Int)] R2)
                have hb2 := roomP_bd [(x.T[k].size : Int)] R2 (by simp) (by omega) (by omega)
                go_roundw
                case rel =>
                  refine ⟨k + 1, _, hkl, by go_num, rfl, hb2.1, hb2.2, (fun h => ?_), below_new_ HC.out _⟩
                  have h2 := (HRS.out h).2
                  have h3 := HKR.out (by omega)
                  rw [List.take_succ_eq_append_getElem hkl, szT_snoc, h2]
                  simp
                  omega
                case measure => simp [intOf]; omega
            · have e1 : decide (k < x.T.length) = false := by rw [decide_eq_false_iff_not]; exact hkl
              go_wp2_with fail
              go_roundw
              case rel =>
                refine ⟨i + 1, R2, hlt, by go_num, rfl, k0, k1, (fun h => ?_), HC.out⟩
                have h3 := HKR.out h
                rw [List.take_of_length_le (l := x.T) (i := k) (by omega)] at h3
                rw [List.take_succ_eq_append_getElem hlt, ← HX.out, szOps_snoc, szOp]
                omega
              case measure => simp [intOf]; omega
      · have d2 : decide ((i : Int) < 200) = false := by rw [decide_eq_false_iff_not]; omega
        have d5 : decide ((xs.length : Int) ≤ 100) = false := by rw [decide_eq_false_iff_not]; omega
        go_wp2_with fail
        go_ret
        exact ⟨false, rfl, (fun h => by cases h), HB.out⟩
    · have d1 : decide (i < xs.length) = false := by rw [decide_eq_false_iff_not]; exact hlt
      by_cases hneg : R < 0
      · have d3 : decide (0 ≤ R) = false := by rw [decide_eq_false_iff_not]; omega
        by_cases hl : xs.length ≤ 100
        · have d5 : decide ((xs.length : Int) ≤ 100) = true := by rw [decide_eq_true_iff]; omega
          go_wp2_with fail
          go_ret
          exact ⟨false, rfl, (fun h => by cases h), HB.out⟩
        · have d5 : decide ((xs.length : Int) ≤ 100) = false := by rw [decide_eq_false_iff_not]; omega
          go_wp2_with fail
          go_ret
          exact ⟨false, rfl, (fun h => by cases h), HB.out⟩
      · have d3 : decide (0 ≤ R) = true := by rw [decide_eq_true_iff]; omega
        by_cases hl : xs.length ≤ 100
        · have d5 : decide ((xs.length : Int) ≤ 100) = true := by rw [decide_eq_true_iff]; omega
          go_wp2_with fail
          go_ret
          refine ⟨true, rfl, (fun _ => ⟨hl, ?_⟩), HB.out⟩
          have h := HRR.out (by omega)
          rw [List.take_of_length_le (by omega)] at h
          omega
        · have d5 : decide ((xs.length : Int) ≤ 100) = false := by rw [decide_eq_false_iff_not]; omega
          go_wp2_with fail
          go_ret
          exact ⟨false, rfl, (fun h => by cases h), HB.out⟩
end Go.Proofs.Ytjhciobkofnjfaa
