/- complinelaw3.WireBack: the law's walk. -/
import Derived.Test.YtjhciobkofnjfaaBackMath
import Derived.Test.YtjhciobkofnjfaaRdTB
import Derived.Deep.LoopGhost
import Derived.Deep.CutBlock
import Derived.Deep.DeepCutAuto
import Derived.Deep.RegionHeld3
namespace Go.Proofs.Ytjhciobkofnjfaa
open Go.RowKit WM

/-- A reader of the law's own, and what stands since. -/
structure RdW (w W : World) (q : Nat) (e : Int) (l : List UInt8) : Prop where
  rd : RdS w.heap.size W q e l
  blw : Below w.heap.size w W
theorem RdW.step {w W W' : World} {q : Nat} {e e' : Int} {l l' : List UInt8} (h : RdW w W q e l) (hr : RdS w.heap.size W' q e' l') (k : Only (only1 q) W W') : RdW w W' q e' l' :=
  ⟨hr, h.blw.trans (k.toBelow h.blw.size (fun _ hi => by unfold only1 at hi; subst hi; exact h.rd.base))⟩
theorem RdW.quiet {w W W' : World} {q : Nat} {e : Int} {l : List UInt8} (h : RdW w W q e l) (k : Only none_ W W') : RdW w W' q e l :=
  h.step (h.rd.only k (fun h => h)) (k.mono (fun _ h => h.elim))
/-- A call that reads, and two cells that the law reads beside it. -/
theorem RdW.held {w W : World} {q : Nat} {l : List UInt8} (h : RdW w W q 0 l) {f : FuncId} {v : Value} {rest : List UInt8} {a1 a2 : Addr} {v1 v2 : Value} (b1 : a1.block < w.heap.size) (b2 : a2.block < w.heap.size) (c1 : w.cell? a1 = some v1) (c2 : w.cell? a2 = some v2)
    (hc : ∀ W, RdS w.heap.size W q 0 l → Calls Try.prog f #[.pointer (some ⟨q, 0, none⟩)] W (RPost w.heap.size W q v 0 rest)) (t : Nat) :
    Calls Try.prog f #[.pointer (some ⟨q, 0, none⟩)] (W.drewN t) fun r W' => r = .returned v ∧ RdW w W' q 0 rest ∧ W'.cell? a1 = some v1 ∧ W'.cell? a2 = some v2 := by
  have h2 := h.quiet (only_drewN none_ W t)
  refine (hc (W.drewN t) h2.rd).mono ?_
  rintro r W' ⟨rfl, hr, ho⟩
  have h3 := h2.step hr ho
  exact ⟨rfl, h3, (h3.blw.cell b1).trans c1, (h3.blw.cell b2).trans c2⟩

def PutsRel (w : World) (g : Nat) (xs : List OpD) (left : Nat) (s : Value) (W : World) : Prop :=
  ∃ (i : Nat) (o : Option Nat), i ≤ xs.length ∧ left = xs.length - i ∧ s = .int .i64 i ∧ Wr w.heap.size W g ((xs.take i).foldl stO (0, [])).1 o ((xs.take i).foldl stO (0, [])).2 ∧ Below w.heap.size w W ∧ ((((xs.take i).foldl stO (0, [])).2.length : Nat) : Int) ≤ 10 * szOps (xs.take i)
def GetsRel (w : World) (q : Nat) (xs : List OpD) (left : Nat) (s : Value) (W : World) : Prop :=
  ∃ (i : Nat), i ≤ xs.length ∧ left = xs.length - i ∧ s = .int .i64 i ∧ RdW w W q 0 ((xs.drop i).flatMap encOp)
def GetRel {α : Type} (w : World) (q : Nat) (l : List α) (enc : List α → List UInt8) (rest : List UInt8) (left : Nat) (s : Value) (W : World) : Prop :=
  ∃ (k : Nat), k ≤ l.length ∧ left = l.length - k ∧ s = .int .i64 k ∧ RdW w W q 0 (enc (l.drop k) ++ rest)

theorem outB_ok (bs : List UInt8) : outB 0 bs = bstr bs := by simp [outB]
theorem outB_two (bs : List UInt8) : outB 2 bs = ⟨#[]⟩ := by simp [outB, bstr]

set_option maxHeartbeats 1600000 in
set_option maxRecDepth 100000 in
theorem back_law (A : Option Addr) (n c : Nat) (xs : List OpD) (w : World) (hs : SliceOf w 4 (isOp w) A n c xs) :
    Calls Try.prog 8 #[.slice A n c] w fun r w' => r = .returned (.bool true) ∧ Below w.heap.size w w' := by
  have hnx := hs.len
  have hmx := hs.max
  have hcp := hs.cap
  unfold maxLen at hmx
  subst hnx
  have HS := hide hs
  clear hs
  go_enter Try.func8, Try.ntmps8
  go_wp2_with fail
  refine (light_any A xs.length c xs w HS.out).mono ?_
  rintro r W0 ⟨b, rfl, hlight, hb0⟩
  have HB0 := hide hb0
  have HL := hide hlight
  clear hb0 hlight
  cases b
  · go_wp2_with fail
    refine (alive3 W0).mono ?_
    rintro r W1 ⟨rfl, hb1⟩
    have HB1 := hide hb1
    clear hb1
    go_wp2_with fail
    go_ret
    exact ⟨rfl, HB0.out.trans (HB1.out.mono HB0.out.size)⟩
  have hlen := (HL.out rfl).1
  have HSZ := hide (HL.out rfl).2
  clear HL
  go_wp2_with fail
  refine (newWriter_any W0).mono ?_
  rintro r W1 ⟨rfl, hW1⟩
  have h1 : Wr w.heap.size W1 W0.heap.size 0 none [] := by rw [← hW1]; exact Wr.new W0 w.heap.size HB0.out.size
  have hB1 : Below w.heap.size w W1 := by rw [← hW1]; exact below_new_ HB0.out _
  generalize W0.heap.size = g at h1 ⊢
  have H1 := hide h1
  have HB1 := hide hB1
  clear hW1 h1 hB1 HB0
  go_wp2_with fail
  go_loopg [4] xs.length (fun left s wx => PutsRel w g xs left s wx)
  case atStart => exact ⟨0, none, Nat.zero_le _, rfl, rfl, H1.out, HB1.out, by simp [szOps]⟩
  case round =>
    clear H1 HB1
    obtain ⟨i, o, hi, rfl, rfl, hwr, hblw, hlenb⟩ := hrel
    obtain ⟨st, hst⟩ : ∃ st, st = (xs.take i).foldl stO (0, []) := ⟨_, rfl⟩
    rw [← hst] at hwr hlenb
    have HW := hide hwr
    have HBL := hide hblw
    have HLB := hide hlenb
    have HST := hide hst
    clear hwr hblw hlenb hst
    by_cases hlt : i < xs.length
    · have d1 : decide (i < xs.length) = true := by rw [decide_eq_true_iff]; exact hlt
      obtain ⟨ad, AN, AT, AB, cN, cT, cB, rfl, hblk, hblk2, hck, hkb, hcN, hcT, hcB, sN, sT, sB⟩ := op_at HS.out hlt
      obtain ⟨x, hx⟩ : ∃ x, x = xs[i]'hlt := ⟨_, rfl⟩
      rw [← hx] at hkb hcN hcT hcB sN sT sB
      have HX := hide hx
      have HCN := hide hcN
      have HCT := hide hcT
      have HCB := hide hcB
      have SN := hide sN
      have ST := hide sT
      have SB := hide sB
      clear hcN hcT hcB hck hkb hx sN sT sB
      have htk : szOps (xs.take (i + 1)) = szOps (xs.take i) + szOp x := by rw [List.take_succ_eq_append_getElem hlt, szOps_snoc, HX.out]
      have HTK := hide htk
      have hb1 := szOps_take_ xs (i + 1)
      have hb2 := szOps_nonneg_ (xs.take i)
      have hb3 := HSZ.out
      have hb4 := HLB.out
      have hb5 := szT_nonneg x.T
      rw [htk] at hb1
      unfold szOp at hb1 HTK
      have hNB : ∀ v ∈ x.N, bd v := SN.out.good
      have HNB := hide hNB
      clear htk hNB
      have cN' := (HBL.out.cell (p := ⟨(ad.add (i * 4)).block, (ad.add (i * 4)).off + 1, none⟩) hblk2).trans HCN.out
      go_wp2_with fail
      refine (wnum_any w.heap.size g st.1 o st.2 AN x.N.length cN x.N wr HW.out (SN.out.reads.below_ HBL.out SN.out.block) (fun h0 a h1 hf => by have h8 := SN.out.block h0 a h1; have h9 := HW.out.base _ hf; omega) HNB.out (by omega) HBL.out.size).mono ?_
      rintro r W2 ⟨rfl, o2, hw2, k2, m2⟩
      have hbl2 : Below w.heap.size w W2 := HBL.out.trans (k2.toBelow HBL.out.size HW.out.base)
      obtain ⟨b2, hb2d⟩ : ∃ b2, b2 = (if st.1 = 0 then st.2 ++ encs x.N else st.2) := ⟨_, rfl⟩
      rw [← hb2d] at hw2
      have hlb2 : b2.length ≤ st.2.length + 10 * x.N.length := by
        have := encs_len x.N HNB.out
        rw [hb2d]
        split
        · rw [List.length_append]; omega
        · omega
      have HW2 := hide hw2
      have HBL2 := hide hbl2
      have HB2D := hide hb2d
      clear hw2 k2 m2 hbl2 hb2d cN' HW HBL
      have cT' := (HBL2.out.cell (p := ⟨(ad.add (i * 4)).block, (ad.add (i * 4)).off + 2, none⟩) hblk2).trans HCT.out
      go_wp2_with fail
      refine (wtext_any w.heap.size g st.1 o2 b2 AT x.T.length cT x.T W2 HW2.out (ST.out.reads.below_ HBL2.out ST.out.block) (fun h0 a h1 hf => by have h8 := ST.out.block h0 a h1; have h9 := HW2.out.base _ hf; omega) (by omega) HBL2.out.size).mono ?_
      rintro r W3 ⟨rfl, o3, hw3, k3, m3⟩
      have hbl3 : Below w.heap.size w W3 := HBL2.out.trans (k3.toBelow HBL2.out.size HW2.out.base)
      have hlb3 := st1s_len x.T (st.1, b2)
      rw [st1_all] at hlb3
      obtain ⟨st3, hst3⟩ : ∃ st3, st3 = stT x.T (st.1, b2) := ⟨_, rfl⟩
      rw [← hst3] at hw3 hlb3
      dsimp only at hlb3
      have HW3 := hide hw3
      have HBL3 := hide hbl3
      have HST3 := hide hst3
      clear hw3 k3 m3 hbl3 hst3 cT' HW2 HBL2
      have cB' := (HBL3.out.cell (p := ⟨(ad.add (i * 4)).block, (ad.add (i * 4)).off + 3, none⟩) hblk2).trans HCB.out
      go_wp2_with fail
      refine (wbool_any w.heap.size g st3.1 o3 st3.2 AB x.B.length cB x.B W3 HW3.out (SB.out.reads.below_ HBL3.out SB.out.block) (fun h0 a h1 hf => by have h8 := SB.out.block h0 a h1; have h9 := HW3.out.base _ hf; omega) (by omega) HBL3.out.size).mono ?_
      rintro r W4 ⟨rfl, o4, hw4, k4, m4⟩
      have hbl4 : Below w.heap.size w W4 := HBL3.out.trans (k4.toBelow HBL3.out.size HW3.out.base)
      have HW4 := hide hw4
      have HBL4 := hide hbl4
      clear hw4 k4 m4 hbl4 cB' HW3 HBL3
      go_wp2_with fail
      go_roundg (xs.length - (i + 1))
      case measure => omega
      case rel =>
        have e1 : (xs.take (i + 1)).foldl stO (0, []) = stO st x := by rw [List.take_succ_eq_append_getElem hlt, List.foldl_append, ← HST.out, HX.out]; rfl
        have e2 : stO st x = (st3.1, if st3.1 = 0 then st3.2 ++ x.B.map encB else st3.2) := by rw [HST3.out, HB2D.out]; rfl
        refine ⟨i + 1, o4, hlt, rfl, by go_num, ?_, HBL4.out, ?_⟩
        · rw [e1, e2]
          exact HW4.out
        · rw [e1, HTK.out]
          have := stO_len st x HNB.out
          omega
    · have d1 : decide (i < xs.length) = false := by rw [decide_eq_false_iff_not]; exact hlt
      have hie : i = xs.length := by omega
      have hst2 := HST.out
      rw [hie, List.take_length] at hst2
      have hci := stOs_is xs (0, []) (.inl rfl)
      rw [← hst2] at hci
      have hb3 := HSZ.out
      have hlb := HLB.out
      have hb6 := szOps_take_ xs i
      have hobs : st.2.length ≤ 140737488355328 := by omega
      clear hie hst2 hlb hb6
      have HCI := hide hci
      clear hci
      go_wp2_with fail
      refine (wbytes_any w.heap.size g st.1 o st.2 wr HW.out).mono ?_
      rintro r w7 ⟨rfl, rfl⟩
      rcases HCI.out with h2 | ⟨_, h0, hok⟩
      · rw [h2, outB_two]
        clear h2
        go_wp2_with fail
        refine (alive3 wr).mono ?_
        rintro r W8 ⟨rfl, hb8⟩
        have HB8 := hide hb8
        clear hb8
        go_wp2_with fail
        go_ret
        exact ⟨rfl, HBL.out.trans (HB8.out.mono HBL.out.size)⟩
      rw [h0] at hobs
      rw [h0]
      dsimp only
      rw [outB_ok]
      dsimp only at hobs
      have HOK := hide hok
      clear hok h0 HCI HW HLB HST
      rw [List.nil_append] at hobs ⊢
      generalize hbb : bstr (xs.flatMap encOp) = bb
      have hbsz : bb.size ≤ 140737488355328 := by rw [← hbb, bstr_size]; exact hobs
      have HBB := hide hbb
      clear hbb hobs
      go_wp2_with fail
      refine (newReader_any w.heap.size bb wr hbsz HBL.out.size).mono ?_
      rintro r W2 ⟨q, rfl, hq, h2, b2⟩
      have hR : RdW w W2 q 0 (xs.flatMap encOp) := by
        refine ⟨?_, HBL.out.trans (b2.mono HBL.out.size)⟩
        have h3 := h2
        rw [← HBB.out, bstr_data] at h3
        exact h3
      have HR := hide hR
      clear h2 b2 hq hR HBB HBL
      go_wp2_with fail
      go_loopg [8] xs.length (fun left s wx => GetsRel w q xs left s wx)
      case atStart => exact ⟨0, Nat.zero_le _, rfl, rfl, HR.out⟩
      case round =>
        clear HR
        obtain ⟨i, hi, rfl, rfl, hrd⟩ := hrel
        have RI := hide hrd
        clear hrd
        by_cases hlt : i < xs.length
        · have d1 : decide (i < xs.length) = true := by rw [decide_eq_true_iff]; exact hlt
          obtain ⟨ad, AN, AT, AB, cN, cT, cB, rfl, hblk, hblk2, hck, hkb, hcN, hcT, hcB, sN, sT, sB⟩ := op_at HS.out hlt
          obtain ⟨x, hx⟩ : ∃ x, x = xs[i]'hlt := ⟨_, rfl⟩
          rw [← hx] at hkb hcN hcT hcB sN sT sB
          have hT1 : ∀ s ∈ x.T, s.size ≤ 1000 := by rw [hx]; exact HOK.out _ (List.getElem_mem hlt)
          have HT1 := hide hT1
          have hri := RI.out
          rw [drop_cons hlt, ← hx, List.flatMap_cons, encOp, List.append_assoc, List.append_assoc] at hri
          have RI2 := hide hri
          have HX := hide hx
          have HCN := hide hcN
          have HCT := hide hcT
          have HCB := hide hcB
          have SN := hide sN
          have ST := hide sT
          have SB := hide sB
          have HNB := hide (show ∀ v ∈ x.N, bd v from sN.good)
          have hNm : x.N.length ≤ 2 ^ 63 - 1 := by have h2 := sN.max; have h3 := sN.cap; unfold maxLen at h2; omega
          have hTm : x.T.length ≤ 2 ^ 63 - 1 := by have h2 := sT.max; have h3 := sT.cap; unfold maxLen at h2; omega
          have hBm : x.B.length ≤ 2 ^ 63 - 1 := by have h2 := sB.max; have h3 := sB.cap; unfold maxLen at h2; omega
          clear hcN hcT hcB hck hkb hx sN sT sB hT1 hri RI
          go_wp2_with fail

          go_loopg [9] x.N.length (fun left s wx => GetRel w q x.N encs (x.T.flatMap encT ++ (x.B.map encB ++ (xs.drop (i + 1)).flatMap encOp)) left s wx)
          case atStart => exact ⟨0, Nat.zero_le _, rfl, rfl, RI2.out⟩
          case round =>
            obtain ⟨k, hk, rfl, rfl, hr5⟩ := hrel
            have R5 := hide hr5
            clear hr5

            by_cases hkl : k < x.N.length
            · have e2 : decide (k < x.N.length) = true := by rw [decide_eq_true_iff]; exact hkl
              obtain ⟨ad5, u, rfl, hu, hcell⟩ := SN.out.reads.at_ hkl
              have hbk : (ad5.add k).block < w.heap.size := by rw [block_of_add]; exact SN.out.block (by omega) ad5 rfl
              have hu2 : u = .int .i64 (x.N[k]'hkl) := by
                simp only [List.getElem?_map, List.getElem?_eq_getElem hkl, Option.map_some, Option.some.injEq] at hu
                exact hu.symm
              subst hu2
              clear hu
              have hnx := R5.out
              rw [encs_drop hkl] at hnx
              obtain ⟨y, hy⟩ : ∃ y, y = x.N[k]'hkl := ⟨_, rfl⟩
              rw [← hy] at hcell hnx
              have HY := hide hy
              clear hy
              have cX' := (R5.out.blw.cell (p := ⟨(ad.add (i * 4)).block, (ad.add (i * 4)).off + 1, none⟩) hblk2).trans HCN.out
              have cY' := (R5.out.blw.cell (p := ad5.add k) hbk).trans hcell
              have CF := hnx.held (a1 := ⟨(ad.add (i * 4)).block, (ad.add (i * 4)).off + 1, none⟩) (a2 := ad5.add k) hblk2 hbk HCN.out hcell (fun W hW => by have h := rd_num_ok w.heap.size q _ W hW; rw [numP_enc (by rw [HY.out]; exact HNB.out _ (List.getElem_mem hkl))] at h; exact h) 1
              have HCL := hide hcell
              clear hcell hnx
              go_wp2_with fail
              go_region_held3 (fun w' => w'.cell? ⟨(ad.add (i * 4)).block, (ad.add (i * 4)).off + 1, none⟩ = some (.slice (some ad5) x.N.length cN) ∧ w'.cell? (ad5.add k) = some (.int .i64 y)) (go_keep) (first | (go_at_call 23; refine CF.mono ?_; rintro r W6 ⟨rfl, hm6, s1, s2⟩))
              have R6 := hide hm6
              clear hm6 CF R5 s1 s2 cX' cY'
              go_wp2_with fail
              go_roundg (x.N.length - (k + 1))
              case measure => omega
              case rel => exact ⟨k + 1, hkl, rfl, by go_num, R6.out⟩
            · have e2 : decide (k < x.N.length) = false := by rw [decide_eq_false_iff_not]; exact hkl
              have hke : k = x.N.length := by omega
              have hnx := R5.out
              rw [hke, List.drop_length] at hnx
              have cX' := (R5.out.blw.cell (p := ⟨(ad.add (i * 4)).block, (ad.add (i * 4)).off + 1, none⟩) hblk2).trans HCN.out
              have RN := hide hnx
              clear hnx hke R5
              go_wp2_with fail

              go_loopg [10] x.T.length (fun left s wx => GetRel w q x.T (fun l => l.flatMap encT) (x.B.map encB ++ (xs.drop (i + 1)).flatMap encOp) left s wx)
              case atStart => exact ⟨0, Nat.zero_le _, rfl, rfl, RN.out⟩
              case round =>
                obtain ⟨k, hk, rfl, rfl, hr5⟩ := hrel
                have R5 := hide hr5
                clear hr5

                by_cases hkl : k < x.T.length
                · have e2 : decide (k < x.T.length) = true := by rw [decide_eq_true_iff]; exact hkl
                  obtain ⟨ad5, u, rfl, hu, hcell⟩ := ST.out.reads.at_ hkl
                  have hbk : (ad5.add k).block < w.heap.size := by rw [block_of_add]; exact ST.out.block (by omega) ad5 rfl
                  have hu2 : u = .string (x.T[k]'hkl) := by
                    simp only [List.getElem?_map, List.getElem?_eq_getElem hkl, Option.map_some, Option.some.injEq] at hu
                    exact hu.symm
                  subst hu2
                  clear hu
                  have hnx := R5.out
                  rw [encTs_drop hkl] at hnx
                  obtain ⟨y, hy⟩ : ∃ y, y = x.T[k]'hkl := ⟨_, rfl⟩
                  rw [← hy] at hcell hnx
                  have HY := hide hy
                  clear hy
                  have cX' := (R5.out.blw.cell (p := ⟨(ad.add (i * 4)).block, (ad.add (i * 4)).off + 2, none⟩) hblk2).trans HCT.out
                  have cY' := (R5.out.blw.cell (p := ad5.add k) hbk).trans hcell
                  have CF := hnx.held (a1 := ⟨(ad.add (i * 4)).block, (ad.add (i * 4)).off + 2, none⟩) (a2 := ad5.add k) hblk2 hbk HCT.out hcell (fun W hW => rdtext_ok w.heap.size q _ _ W hW (by rw [HY.out]; exact HT1.out _ (List.getElem_mem hkl))) 1
                  have HCL := hide hcell
                  clear hcell hnx
                  go_wp2_with fail
                  go_region_held3 (fun w' => w'.cell? ⟨(ad.add (i * 4)).block, (ad.add (i * 4)).off + 2, none⟩ = some (.slice (some ad5) x.T.length cT) ∧ w'.cell? (ad5.add k) = some (.string y)) (go_keep) (first | (go_at_call 37; refine CF.mono ?_; rintro r W6 ⟨rfl, hm6, s1, s2⟩))
                  have R6 := hide hm6
                  clear hm6 CF R5 s1 s2 cX' cY'
                  go_wp2_with fail
                  go_roundg (x.T.length - (k + 1))
                  case measure => omega
                  case rel => exact ⟨k + 1, hkl, rfl, by go_num, R6.out⟩
                · have e2 : decide (k < x.T.length) = false := by rw [decide_eq_false_iff_not]; exact hkl
                  have hke : k = x.T.length := by omega
                  have hnx := R5.out
                  rw [hke, List.drop_length] at hnx
                  have cX' := (R5.out.blw.cell (p := ⟨(ad.add (i * 4)).block, (ad.add (i * 4)).off + 2, none⟩) hblk2).trans HCT.out
                  have RN := hide hnx
                  clear hnx hke R5
                  go_wp2_with fail

                  go_loopg [11] x.B.length (fun left s wx => GetRel w q x.B (fun l => l.map encB) ((xs.drop (i + 1)).flatMap encOp) left s wx)
                  case atStart => exact ⟨0, Nat.zero_le _, rfl, rfl, RN.out⟩
                  case round =>
                    obtain ⟨k, hk, rfl, rfl, hr5⟩ := hrel
                    have R5 := hide hr5
                    clear hr5

                    by_cases hkl : k < x.B.length
                    · have e2 : decide (k < x.B.length) = true := by rw [decide_eq_true_iff]; exact hkl
                      obtain ⟨ad5, u, rfl, hu, hcell⟩ := SB.out.reads.at_ hkl
                      have hbk : (ad5.add k).block < w.heap.size := by rw [block_of_add]; exact SB.out.block (by omega) ad5 rfl
                      have hu2 : u = .bool (x.B[k]'hkl) := by
                        simp only [List.getElem?_map, List.getElem?_eq_getElem hkl, Option.map_some, Option.some.injEq] at hu
                        exact hu.symm
                      subst hu2
                      clear hu
                      have hnx := R5.out
                      rw [encBs_drop hkl] at hnx
                      obtain ⟨y, hy⟩ : ∃ y, y = x.B[k]'hkl := ⟨_, rfl⟩
                      rw [← hy] at hcell hnx
                      have HY := hide hy
                      clear hy
                      have cX' := (R5.out.blw.cell (p := ⟨(ad.add (i * 4)).block, (ad.add (i * 4)).off + 3, none⟩) hblk2).trans HCB.out
                      have cY' := (R5.out.blw.cell (p := ad5.add k) hbk).trans hcell
                      have CF := hnx.held (a1 := ⟨(ad.add (i * 4)).block, (ad.add (i * 4)).off + 3, none⟩) (a2 := ad5.add k) hblk2 hbk HCB.out hcell (fun W hW => rdbool_ok w.heap.size q _ _ W hW) 1
                      have HCL := hide hcell
                      clear hcell hnx
                      go_wp2_with fail
                      go_region_held3 (fun w' => w'.cell? ⟨(ad.add (i * 4)).block, (ad.add (i * 4)).off + 3, none⟩ = some (.slice (some ad5) x.B.length cB) ∧ w'.cell? (ad5.add k) = some (.bool y)) (go_keep) (first | (go_at_call 38; refine CF.mono ?_; rintro r W6 ⟨rfl, hm6, s1, s2⟩))
                      have R6 := hide hm6
                      clear hm6 CF R5 s1 s2 cX' cY'
                      go_wp2_with fail
                      go_roundg (x.B.length - (k + 1))
                      case measure => omega
                      case rel => exact ⟨k + 1, hkl, rfl, by go_num, R6.out⟩
                    · have e2 : decide (k < x.B.length) = false := by rw [decide_eq_false_iff_not]; exact hkl
                      have hke : k = x.B.length := by omega
                      have hnx := R5.out
                      rw [hke, List.drop_length] at hnx
                      have cX' := (R5.out.blw.cell (p := ⟨(ad.add (i * 4)).block, (ad.add (i * 4)).off + 3, none⟩) hblk2).trans HCB.out
                      have RN := hide hnx
                      clear hnx hke R5
                      go_wp2_with fail
                      go_roundg (xs.length - (i + 1))
                      case measure => omega
                      case rel => exact ⟨i + 1, hlt, rfl, by go_num, RN.out⟩
        · have d1 : decide (i < xs.length) = false := by rw [decide_eq_false_iff_not]; exact hlt
          have hri := RI.out
          rw [List.drop_of_length_le (by omega), List.flatMap_nil] at hri
          have RI2 := hide hri
          clear hri RI
          go_wp2_with fail
          refine (alive3 wr).mono ?_
          rintro r W8 ⟨rfl, hb8⟩
          have R8 := hide (RI2.out.quiet ⟨hb8.os, hb8.tape, hb8.output, hb8.size, fun k hk _ => hb8.block k hk⟩)
          clear hb8 RI2
          obtain ⟨c8, _⟩ := rd_errCell R8.out.rd
          go_wp2_with fail
          refine (wrong_at _ _ _ c8).mono ?_
          rintro r w9 ⟨rfl, rfl⟩
          go_wp2_with fail
          refine (rd_left_s w.heap.size q 0 [] W8 R8.out.rd).mono ?_
          rintro r W9 ⟨rfl, k9⟩
          have R9 := hide (R8.out.quiet k9)
          clear k9 R8 c8
          go_wp2_with fail
          refine (rd_end w.heap.size q 0 [] W9 R9.out.rd).mono ?_
          rintro r W10 ⟨rfl, k10⟩
          have R10 := hide (R9.out.quiet k10)
          clear k10 R9
          rw [show endP 0 [] = 0 from rfl]
          go_wp2_with fail
          go_ret
          exact ⟨rfl, R10.out.blw⟩
end Go.Proofs.Ytjhciobkofnjfaa
