/- complinelaw3.WireWrites: the law's walk. -/
import Derived.Test.YtjhciobkofnjfaaTwo
import Derived.Deep.LoopGhost
import Derived.Deep.CutBlock
import Derived.Deep.DeepCutAuto
import Derived.Deep.RegionHeld3
namespace Go.Proofs.Ytjhciobkofnjfaa
open Go.RowKit WM

def Ready (w W : World) (s5 s6 : Value) : Prop :=
  ∃ g q, s5 = .pointer (some ⟨g, 0, none⟩) ∧ s6 = .pointer (some ⟨q, 0, none⟩) ∧ Two w.heap.size w W g q none none 0 0 [] []
def WritesRel (w : World) (g q : Nat) (xs : List OpD) (left : Nat) (s7 : Value) (W : World) : Prop :=
  ∃ (i : Nat) (e : Int) (o p : Option Nat) (bs : List UInt8), i ≤ xs.length ∧ left = xs.length - i ∧ s7 = .int .i64 i ∧ Two w.heap.size w W g q o p e e bs bs ∧ (bs.length : Int) ≤ 10 * szOps (xs.take i)
def MidRel (w : World) (g q : Nat) (xs : List OpD) (i : Nat) (W : World) : Prop :=
  ∃ (e : Int) (o p : Option Nat) (bs : List UInt8), Two w.heap.size w W g q o p e e bs bs ∧ (bs.length : Int) ≤ 10 * szOps (xs.take (i + 1))

/-- Both writers, and the law's own copy of the step. -/
structure Mid (B : Nat) (w0 W : World) (g q : Nat) (o p : Option Nat) (ew er : Int) (bw br : List UInt8) (b8 : Nat) (a0 a1 a2 a3 : Value) : Prop where
  two : Two B w0 W g q o p ew er bw br
  blk : W.heap[b8]? = some (.cells #[a0, a1, a2, a3] 54 (0, 0))
  fr : Free g q o p B b8
section
variable {B : Nat} {w0 W W' : World} {g q b8 gm n : Nat} {o o' p p' : Option Nat} {ew er ew' er' : Int} {bw br bw' br' : List UInt8} {a0 a1 a2 a3 : Value} {ys : List Value}
theorem Mid.stepW (h : Mid B w0 W g q o p ew er bw br b8 a0 a1 a2 a3) (hw : Wr B W' g ew' o' bw') (k : Only (foot g o) W W') (m : moved W o o') : Mid B w0 W' g q o' p ew' er bw' br b8 a0 a1 a2 a3 :=
  ⟨h.two.stepW hw k m, blk_only h.blk k h.fr.1, h.fr.stepW m (blk_lt h.blk)⟩
theorem Mid.stepR (h : Mid B w0 W g q o p ew er bw br b8 a0 a1 a2 a3) (hw : WrR B W' q er' p' br') (k : Only (foot q p) W W') (m : moved W p p') : Mid B w0 W' g q o p' ew er' bw br' b8 a0 a1 a2 a3 :=
  ⟨h.two.stepR hw k m, blk_only h.blk k h.fr.2.1, h.fr.stepR m (blk_lt h.blk)⟩
theorem Mid.quiet (h : Mid B w0 W g q o p ew er bw br b8 a0 a1 a2 a3) (k : Below W.heap.size W W') : Mid B w0 W' g q o p ew er bw br b8 a0 a1 a2 a3 :=
  ⟨h.two.quiet k, blk_only h.blk (below_only k) (fun h => h), h.fr⟩
theorem Mid.cells (h : Mid B w0 W g q o p ew er bw br b8 a0 a1 a2 a3) : W.cell? ⟨b8, 0, none⟩ = some a0 ∧ W.cell? ⟨b8, 1, none⟩ = some a1 ∧ W.cell? ⟨b8, 2, none⟩ = some a2 ∧ W.cell? ⟨b8, 3, none⟩ = some a3 :=
  ⟨by have := blk_cell h.blk 0; simpa using this, by have := blk_cell h.blk 1; simpa using this, by have := blk_cell h.blk 2; simpa using this, by have := blk_cell h.blk 3; simpa using this⟩
/-- A list that was lent, with what stands behind it. -/
structure Lnt (B : Nat) (W : World) (g q : Nat) (o p : Option Nat) (gm n : Nat) (ys : List Value) : Prop where
  rd : Reads W (some ⟨gm, 0, none⟩) n ys
  fr : Free g q o p B gm
  lt : gm < W.heap.size
theorem Lnt.stepW (h : Lnt B W g q o p gm n ys) (k : Only (foot g o) W W') (m : moved W o o') : Lnt B W' g q o' p gm n ys :=
  ⟨h.rd.only k (by rintro ad h1; cases h1; exact h.fr.1), h.fr.stepW m h.lt, Nat.lt_of_lt_of_le h.lt k.size⟩
theorem Lnt.stepR (h : Lnt B W g q o p gm n ys) (k : Only (foot q p) W W') (m : moved W p p') : Lnt B W' g q o p' gm n ys :=
  ⟨h.rd.only k (by rintro ad h1; cases h1; exact h.fr.2.1), h.fr.stepR m h.lt, Nat.lt_of_lt_of_le h.lt k.size⟩
theorem Mid.fail (h : Mid B w0 W g q o p ew er bw br b8 a0 a1 a2 a3) (y : Int) {ad : Addr} {v : Value} (hb : ad.block < w0.heap.size) (hc : w0.cell? ad = some v) (hbb : w0.heap.size ≤ B) (t : Nat) :
    Calls Try.prog 33 #[.pointer (some ⟨g, 0, none⟩), .int .i64 y] (W.drewN t) fun r W' => r = .returned (.tuple #[]) ∧ ∃ o', Mid B w0 W' g q o' p (firstE ew y) er bw br b8 a0 a1 a2 a3 ∧ W'.cell? ⟨b8, 1, none⟩ = some a1 ∧ W'.cell? ad = some v := by
  have h2 := h.quiet (below_drewN (Below.refl _ _) t)
  refine (wfail_any_ B g ew y o bw (W.drewN t) h2.two.wr).mono ?_
  rintro r W' ⟨rfl, o', hw, k, m⟩
  have h3 := h2.stepW hw k m
  exact ⟨rfl, o', h3, h3.cells.2.1, (h3.two.blw.cell (by omega)).trans hc⟩
end

def LoopRel (B : Nat) (w0 : World) (g q : Nat) (o : Option Nat) (ew : Int) (bw : List UInt8) (b8 : Nat) (a0 a1 a2 a3 : Value) (gm : Nat) (ys : List Value) (len : Nat) (S : Nat → Int × List UInt8) (left : Nat) (s : Value) (W : World) : Prop :=
  ∃ (k : Nat) (p : Option Nat), k ≤ len ∧ left = len - k ∧ s = .int .i64 k ∧ Mid B w0 W g q o p ew (S k).1 bw (S k).2 b8 a0 a1 a2 a3 ∧ Lnt B W g q o p gm (len + 1) ys
def LoopRel3 (B : Nat) (w0 : World) (g q : Nat) (o : Option Nat) (ew : Int) (bw : List UInt8) (b8 : Nat) (a0 a1 a2 a3 : Value) (len : Nat) (S : Nat → Int × List UInt8) (left : Nat) (s : Value) (W : World) : Prop :=
  ∃ (k : Nat) (p : Option Nat), k ≤ len ∧ left = len - k ∧ s = .int .i64 k ∧ Mid B w0 W g q o p ew (S k).1 bw (S k).2 b8 a0 a1 a2 a3
def LoopRel4 (B : Nat) (w0 : World) (g q : Nat) (bs : List UInt8) (b8 : Nat) (a0 a1 a2 a3 : Value) (len : Nat) (left : Nat) (s : Value) (W : World) : Prop :=
  ∃ (k : Nat) (e : Int) (o p : Option Nat), k ≤ len ∧ left = len - k ∧ s = .int .i64 k ∧ Mid B w0 W g q o p e e bs bs b8 a0 a1 a2 a3

def stN (e : Int) (bs : List UInt8) (l : List Int) (k : Nat) : Int × List UInt8 := (e, if e = 0 then bs ++ encs (l.take k) else bs)
theorem stN_step (e : Int) (bs : List UInt8) (l : List Int) (k : Nat) (h : k < l.length) : (if e = 0 then (stN e bs l k).2 ++ encI l[k] else (stN e bs l k).2) = (stN e bs l (k + 1)).2 := by
  unfold stN
  by_cases he : e = 0
  · simp only [if_pos he]
    rw [List.take_succ_eq_append_getElem h, encs_snoc, List.append_assoc]
  · simp only [if_neg he]
theorem stN_len (e : Int) (bs : List UInt8) (l : List Int) (k : Nat) (h : ∀ v ∈ l, bd v) : (stN e bs l k).2.length ≤ bs.length + 10 * l.length := by
  unfold stN
  dsimp only
  have h1 := encs_len (l.take k) (fun v hv => h v (List.mem_of_mem_take hv))
  rw [List.length_take] at h1
  split
  · rw [List.length_append]; omega
  · omega
def stB (e : Int) (bs : List UInt8) (l : List Bool) (k : Nat) : Int × List UInt8 := (e, if e = 0 then bs ++ (l.take k).map encB else bs)
theorem stB_step (e : Int) (bs : List UInt8) (l : List Bool) (k : Nat) (h : k < l.length) : (if e = 0 then (stB e bs l k).2 ++ [encB l[k]] else (stB e bs l k).2) = (stB e bs l (k + 1)).2 := by
  unfold stB
  by_cases he : e = 0
  · simp only [if_pos he]
    rw [List.take_succ_eq_append_getElem h, List.map_append, List.append_assoc]
    rfl
  · simp only [if_neg he]
theorem stB_len (e : Int) (bs : List UInt8) (l : List Bool) (k : Nat) : (stB e bs l k).2.length ≤ bs.length + l.length := by
  unfold stB
  dsimp only
  split
  · rw [List.length_append, List.length_map, List.length_take]; omega
  · omega
def stS (e : Int) (bs : List UInt8) (l : List ByteArray) (k : Nat) : Int × List UInt8 := (l.take k).foldl st1 (e, bs)
theorem stS_step (e : Int) (bs : List UInt8) (l : List ByteArray) (k : Nat) (h : k < l.length) : st1 (stS e bs l k) l[k] = stS e bs l (k + 1) := by
  unfold stS
  rw [List.take_succ_eq_append_getElem h, List.foldl_append]
  rfl
theorem szT_take : ∀ (l : List ByteArray) (k : Nat), szT (l.take k) ≤ szT l
  | [], k => by simp
  | s :: l, 0 => by have := szT_nonneg (s :: l); simpa [szT] using this
  | s :: l, k + 1 => by
    have := szT_take l k
    simp only [szT, List.take_succ_cons, List.map_cons, List.sum_cons] at this ⊢
    omega
theorem szT_mem : ∀ (l : List ByteArray) (s : ByteArray), s ∈ l → (s.size : Int) ≤ szT l
  | [], s, h => by cases h
  | t :: l, s, h => by
    have h0 := szT_nonneg l
    simp only [szT, List.map_cons, List.sum_cons] at h0 ⊢
    rcases List.mem_cons.1 h with rfl | h
    · omega
    · have := szT_mem l s h
      unfold szT at this
      omega
theorem stS_len (e : Int) (bs : List UInt8) (l : List ByteArray) (k : Nat) : ((stS e bs l k).2.length : Int) ≤ bs.length + 10 * l.length + szT l := by
  have h1 := st1s_len (l.take k) (e, bs)
  have h2 := szT_take l k
  rw [List.length_take] at h1
  unfold stS
  dsimp only at h1
  omega
theorem szOp_nonneg (x : OpD) : 0 ≤ szOp x := by have := szT_nonneg x.T; unfold szOp; omega
theorem szOps_nonneg : ∀ l : List OpD, 0 ≤ szOps l
  | [] => by simp [szOps]
  | x :: l => by
    have h1 := szOps_nonneg l
    have h2 := szOp_nonneg x
    simp only [szOps, List.map_cons, List.sum_cons] at h1 ⊢
    omega
theorem szOps_take : ∀ (l : List OpD) (k : Nat), szOps (l.take k) ≤ szOps l
  | [], k => by simp
  | s :: l, 0 => by have := szOps_nonneg (s :: l); simpa [szOps] using this
  | s :: l, k + 1 => by
    have := szOps_take l k
    simp only [szOps, List.take_succ_cons, List.map_cons, List.sum_cons] at this ⊢
    omega

theorem two_start {w W0 : World} (h : Below w.heap.size w W0) :
    Two w.heap.size w ((W0.alloc (.cells #[.int .i64 0, .slice none 0 0] 49)).alloc (.cells #[.slice none 0 0, .int .i64 0] 47)) W0.heap.size (W0.alloc (.cells #[.int .i64 0, .slice none 0 0] 49)).heap.size none none 0 0 [] [] := by
  have hz := h.size
  refine ⟨(Wr.new W0 w.heap.size hz).alloc _, WrR.new _ _ (by simp; omega), ?_, ?_, Nat.le_refl _, by simp; omega⟩
  · rintro k (rfl | hk) (h1 | hk2)
    · simp at h1
    · cases hk2
    · cases hk
    · cases hk
  · exact h.trans ((((Only.refl (fun _ => False) W0).alloc _).alloc _).toBelow hz (fun _ h => h.elim))
theorem two_start_zero {w W0 : World} (h : Below w.heap.size w W0) :
    Two w.heap.size w (((W0.alloc (.cells #[.int .i64 0, .slice none 0 0] 49)).alloc (.cells #[.slice none 0 0, .int .i64 0] 47)).alloc (.cells #[.int .i64 0, .slice none 0 0] 49))
      ((W0.alloc (.cells #[.int .i64 0, .slice none 0 0] 49)).heap.size + 1) (W0.alloc (.cells #[.int .i64 0, .slice none 0 0] 49)).heap.size none none 0 0 [] [] := by
  have hz := h.size
  have e : (W0.alloc (.cells #[.int .i64 0, .slice none 0 0] 49)).heap.size + 1 = ((W0.alloc (.cells #[.int .i64 0, .slice none 0 0] 49)).alloc (.cells #[.slice none 0 0, .int .i64 0] 47)).heap.size := by simp
  have hr := (WrR.new (W0.alloc (.cells #[.int .i64 0, .slice none 0 0] 49)) w.heap.size (by simp; omega)).only ((Only.refl (fun _ => False) _).alloc (.cells #[.int .i64 0, .slice none 0 0] 49)) (fun _ _ h => h)
  refine ⟨by rw [e]; exact Wr.new _ w.heap.size (by simp; omega), hr, ?_, ?_, Nat.le_refl _, by simp; omega⟩
  · rintro k (rfl | hk) (h1 | hk2)
    · simp at h1
    · cases hk2
    · cases hk
    · cases hk
  · exact h.trans (((((Only.refl (fun _ => False) W0).alloc _).alloc _).alloc _).toBelow hz (fun _ h => h.elim))

theorem lnt_front {B : Nat} {W : World} {g q gm n : Nat} {o p : Option Nat} {ys : List Value} {y : Value} (h : Lnt B W g q o p gm (n + 1) (ys ++ [y])) (hl : ys.length = n) : Reads W (some ⟨gm, 0, none⟩) n ys := by
  have := h.rd.take_ (m := n) (by omega)
  rwa [List.take_append_of_le_length (by omega), List.take_of_length_le (by omega)] at this

set_option maxHeartbeats 1600000 in
set_option maxRecDepth 100000 in
theorem writes_law (z : Bool) (A : Option Addr) (n c : Nat) (xs : List OpD) (w : World) (hs : SliceOf w 4 (isOp w) A n c xs) :
    Calls Try.prog 5 #[.bool z, .slice A n c] w fun r w' => r = .returned (.bool true) ∧ Below w.heap.size w w' := by
  have hnx := hs.len
  have hmx := hs.max
  have hcp := hs.cap
  unfold maxLen at hmx
  subst hnx
  have HS := hide hs
  clear hs
  go_enter Try.func5, Try.ntmps5
  go_wp2_with fail
  refine (light_any A xs.length c xs w HS.out).mono ?_
  rintro r W0 ⟨b, rfl, hlight, hb0⟩
  have HB0 := hide hb0
  have HL := hide hlight
  clear hb0 hlight
  cases b
  · go_wp2_with fail
    refine (alive3 W0).mono ?_
    rintro r W1 ⟨rfl, hb1⟩
    have HB1 := hide hb1
    clear hb1
    go_wp2_with fail
    go_ret
    exact ⟨rfl, HB0.out.trans (HB1.out.mono HB0.out.size)⟩
  · have hlen := (HL.out rfl).1
    have HSZ := hide (HL.out rfl).2
    clear HL
    go_wp2_with fail
    refine (newWriter_any W0).mono ?_
    rintro r W1 ⟨rfl, hW1⟩
    have HW1 := hide hW1
    clear hW1
    go_upto_if 26 with fail
    go_cut [5, 6] (fun s5 s6 wx => Ready w wx s5 s6)
    case first =>
      cases z
      · go_wp2_with fail
        go_meet
        refine ⟨W0.heap.size, W1.heap.size, rfl, rfl, ?_⟩
        rw [← HW1.out]
        exact two_start HB0.out
      · go_wp2_with fail
        go_meet
        refine ⟨W1.heap.size + 1, W1.heap.size, rfl, rfl, ?_⟩
        rw [← HW1.out]
        exact two_start_zero HB0.out
    case rest =>
      obtain ⟨g, q, rfl, rfl, h2⟩ := hcut
      have H2 := hide h2
      clear h2 HB0 HW1
      go_wp2_with fail
      go_loopg [7] xs.length (fun left s7 wx => WritesRel w g q xs left s7 wx)
      case atStart => exact ⟨0, 0, none, none, [], Nat.zero_le _, rfl, rfl, H2.out, by simp [szOps]⟩
      case round =>
        clear H2
        obtain ⟨i, e, o, p, bs, hi, rfl, rfl, htwo, hbs⟩ := hrel
        have HT := hide htwo
        have HBS := hide hbs
        clear htwo hbs
        by_cases hlt : i < xs.length
        · have d1 : decide (i < xs.length) = true := by rw [decide_eq_true_iff]; exact hlt
          obtain ⟨ad, AN, AT, AB, cN, cT, cB, rfl, hblk, hblk2, hck, hkb, hcN, hcT, hcB, sN, sT, sB⟩ := op_at HS.out hlt
          obtain ⟨x, hx⟩ : ∃ x, x = xs[i]'hlt := ⟨_, rfl⟩
          rw [← hx] at hck hkb hcN hcT hcB sN sT sB
          have cK' := (HT.out.blw.cell (p := ad.add (i * 4)) hblk2).trans hck
          have cN' := (HT.out.blw.cell (p := ⟨(ad.add (i * 4)).block, (ad.add (i * 4)).off + 1, none⟩) hblk2).trans hcN
          have cT' := (HT.out.blw.cell (p := ⟨(ad.add (i * 4)).block, (ad.add (i * 4)).off + 2, none⟩) hblk2).trans hcT
          have cB' := (HT.out.blw.cell (p := ⟨(ad.add (i * 4)).block, (ad.add (i * 4)).off + 3, none⟩) hblk2).trans hcB
          have HX := hide hx
          have HKB := hide hkb
          have SN := hide sN
          have ST := hide sT
          have SB := hide sB
          clear hcN hcT hcB hck hkb hx sN sT sB
          go_upto_block 2 with fail
          have hM : Mid w.heap.size w (wr.alloc (.cells #[.int .i64 x.kind, .slice AN x.N.length cN, .slice AT x.T.length cT, .slice AB x.B.length cB] 54)) g q o p e e bs bs wr.heap.size (.int .i64 x.kind) (.slice AN x.N.length cN) (.slice AT x.T.length cT) (.slice AB x.B.length cB) :=
            ⟨HT.out.quiet (((Only.refl (fun _ => False) wr).alloc _).toBelow (Nat.le_refl _) (fun _ h => h.elim)), blk_new _ _, fun hf => Nat.lt_irrefl _ (HT.out.wr.lt _ hf), fun hf => Nat.lt_irrefl _ (HT.out.rf.lt _ hf), HT.out.b1⟩
          generalize hW2 : wr.alloc (.cells #[.int .i64 x.kind, .slice AN x.N.length cN, .slice AT x.T.length cT, .slice AB x.B.length cB] 54) = W2 at hM ⊢
          generalize hb8 : wr.heap.size = b8 at hM ⊢
          have M := hide hM
          clear hM hW2 hb8 cK' cN' cT' cB' HT
          have htk : szOps (xs.take (i + 1)) = szOps (xs.take i) + szOp x := by rw [List.take_succ_eq_append_getElem hlt, szOps_snoc, HX.out]
          have HTK := hide htk
          have hb1 := szOps_take xs (i + 1)
          have hb2 := szOps_nonneg (xs.take i)
          have hb3 := HSZ.out
          have hb4 := HBS.out
          have hb5 := szT_nonneg x.T
          rw [htk] at hb1
          unfold szOp at hb1 HTK
          have hNB : ∀ v ∈ x.N, bd v := SN.out.good
          have HNB := hide hNB
          have hnl : x.N.length ≤ 9000 := by omega
          have htl : x.T.length ≤ 9000 := by omega
          have hbl : x.B.length ≤ 9000 := by omega
          have hbsl : bs.length ≤ 90000 := by omega
          have hzt : szT x.T ≤ 9000 := by omega
          clear htk hb1 hb3 hNB
          go_cut [42] (fun _ wx => MidRel w g q xs i wx)
          case first =>
            by_cases k1 : x.kind = 1
            · have d2 : (x.kind == 1) = true := by rw [beq_iff_eq]; exact k1
              clear k1

              -- kind 1
              have hrd : Reads w AN x.N.length (ints x.N) := SN.out.reads
              have hrl := SN.out.block
              have HRD := hide hrd
              have HRL := hide hrl
              clear hrd hrl
              obtain ⟨_, c1, c2, c3⟩ := M.out.cells
              go_wp2_with fail
              refine (lent_ints AN x.N.length cN x.N W2 (HRD.out.below_ M.out.two.blw HRL.out) (by omega)).mono ?_
              rintro r W3 ⟨gm, cm, rfl, hcm, hcmx, hgm, hgl, hRm, hB3⟩
              unfold maxLen at hcmx
              have M3 := hide (M.out.quiet hB3)
              have L3 : Hid (Lnt w.heap.size W3 g q o p gm (x.N.length + 1) _) := ⟨hRm, ⟨fun hf => by have := M.out.two.wr.lt _ hf; omega, fun hf => by have := M.out.two.rf.lt _ hf; omega, Nat.le_trans M.out.two.b1 hgm⟩, hgl⟩
              clear c1 c2 c3 hgm hgl hRm hB3
              go_wp2_with fail
              refine (wnum_any w.heap.size g e o bs (some ⟨gm, 0, none⟩) x.N.length cm x.N W3 M3.out.two.wr (lnt_front L3.out (by simp [ints])) (by rintro _ ad h1; cases h1; exact L3.out.fr.1) HNB.out (by omega) M3.out.two.b1).mono ?_
              rintro r W4 ⟨rfl, o4, hw4, k4, m4⟩
              have M4 := hide (M3.out.stepW hw4 k4 m4)
              have L4 := hide (L3.out.stepW k4 m4)
              clear hw4 k4 m4 M3 L3
              go_wp2_with fail
              go_loopg [10] x.N.length (fun left s wx => LoopRel w.heap.size w g q o4 e (stN e bs x.N x.N.length).2 b8 (.int .i64 x.kind) (.slice AN x.N.length cN) (.slice AT x.T.length cT) (.slice AB x.B.length cB) gm _ x.N.length (stN e bs x.N) left s wx)
              case atStart => exact ⟨0, p, Nat.zero_le _, rfl, rfl, by have h := M4.out; simpa [stN, encs] using h, L4.out⟩
              case round =>
                clear M4 L4 M
                obtain ⟨k, p5, hk, rfl, rfl, hm5, hl5⟩ := hrel
                have M5 := hide hm5
                have L5 := hide hl5
                clear hm5 hl5
                obtain ⟨_, c1, c2, c3⟩ := M5.out.cells
                by_cases hkl : k < x.N.length
                · have e2 : decide (k < x.N.length) = true := by rw [decide_eq_true_iff]; exact hkl
                  obtain ⟨ad5, u, hA5, hu, hcell⟩ := HRD.out.at_ hkl
                  have hc5 := (M5.out.two.blw.cell (p := ad5.add k) (by rw [block_of_add]; exact HRL.out (by omega) ad5 hA5)).trans hcell
                  have hu2 : u = .int .i64 (x.N[k]'hkl) := by
                    simp only [ints, List.getElem?_map, List.getElem?_eq_getElem hkl, Option.map_some, Option.some.injEq] at hu
                    exact hu.symm
                  subst hu2 hA5
                  clear hu hcell
                  obtain ⟨y, hy⟩ : ∃ y, y = x.N[k]'hkl := ⟨_, rfl⟩
                  rw [← hy] at hc5
                  have HY := hide hy
                  clear hy
                  go_wp2_with fail
                  refine (rnum_any_ w.heap.size q e p5 _ y wr M5.out.two.rf (by rw [HY.out]; exact HNB.out _ (List.getElem_mem hkl)) (by have := stN_len e bs x.N k HNB.out; omega) M5.out.two.b1).mono ?_
                  rintro r W6 ⟨rfl, p6, hw6, k6, m6⟩
                  have M6 := hide (M5.out.stepR hw6 k6 m6)
                  have L6 := hide (L5.out.stepR k6 m6)
                  clear hw6 k6 m6 M5 L5 c1 c2 c3 hc5
                  go_wp2_with fail
                  go_roundg (x.N.length - (k + 1))
                  case measure => omega
                  case rel =>
                    refine ⟨k + 1, p6, hkl, rfl, by go_num, ?_, L6.out⟩
                    have h7 := M6.out
                    rw [HY.out, stN_step e bs x.N k hkl] at h7
                    exact h7
                · have e2 : decide (k < x.N.length) = false := by rw [decide_eq_false_iff_not]; exact hkl
                  have hke : k = x.N.length := by omega
                  have HKE := hide hke
                  clear hke
                  go_wp2_with fail
                  refine (stays_ints gm AN x.N.length cm cN x.N wr L5.out.rd (HRD.out.below_ M5.out.two.blw HRL.out) (by omega) hcm (by omega)).mono ?_
                  rintro r W7 ⟨rfl, q7, rfl⟩
                  have M7 := hide (M5.out.quiet (below_drewN (Below.refl _ _) q7))
                  go_wp2_with fail
                  go_meet
                  refine ⟨_, _, _, _, by have h := M7.out.two; rw [HKE.out] at h; exact h, ?_⟩
                  have := stN_len e bs x.N x.N.length HNB.out; rw [HTK.out]; omega
            have d2 : (x.kind == 1) = false := by rw [beq_eq_false_iff_ne]; exact k1
            by_cases k2 : x.kind = 2
            · have d3 : (x.kind == 2) = true := by rw [beq_iff_eq]; exact k2
              clear k1 k2

              -- kind 2
              have hrd : Reads w AT x.T.length (strs x.T) := ST.out.reads
              have hrl := ST.out.block
              have HRD := hide hrd
              have HRL := hide hrl
              clear hrd hrl
              obtain ⟨_, c1, c2, c3⟩ := M.out.cells
              go_wp2_with fail
              refine (lent_texts AT x.T.length cT x.T W2 (HRD.out.below_ M.out.two.blw HRL.out) (by omega)).mono ?_
              rintro r W3 ⟨gm, cm, rfl, hcm, hcmx, hgm, hgl, hRm, hB3⟩
              unfold maxLen at hcmx
              have M3 := hide (M.out.quiet hB3)
              have L3 : Hid (Lnt w.heap.size W3 g q o p gm (x.T.length + 1) _) := ⟨hRm, ⟨fun hf => by have := M.out.two.wr.lt _ hf; omega, fun hf => by have := M.out.two.rf.lt _ hf; omega, Nat.le_trans M.out.two.b1 hgm⟩, hgl⟩
              clear c1 c2 c3 hgm hgl hRm hB3
              go_wp2_with fail
              refine (wtext_any w.heap.size g e o bs (some ⟨gm, 0, none⟩) x.T.length cm x.T W3 M3.out.two.wr (lnt_front L3.out (by simp [strs])) (by rintro _ ad h1; cases h1; exact L3.out.fr.1)  (by omega) M3.out.two.b1).mono ?_
              rintro r W4 ⟨rfl, o4, hw4, k4, m4⟩
              have M4 := hide (M3.out.stepW hw4 k4 m4)
              have L4 := hide (L3.out.stepW k4 m4)
              clear hw4 k4 m4 M3 L3
              go_wp2_with fail
              go_loopg [12] x.T.length (fun left s wx => LoopRel w.heap.size w g q o4 (stS e bs x.T x.T.length).1 (stS e bs x.T x.T.length).2 b8 (.int .i64 x.kind) (.slice AN x.N.length cN) (.slice AT x.T.length cT) (.slice AB x.B.length cB) gm _ x.T.length (stS e bs x.T) left s wx)
              case atStart => exact ⟨0, p, Nat.zero_le _, rfl, rfl, by have h := M4.out; rw [← st1_all] at h; simpa [stS] using h, L4.out⟩
              case round =>
                clear M4 L4 M
                obtain ⟨k, p5, hk, rfl, rfl, hm5, hl5⟩ := hrel
                have M5 := hide hm5
                have L5 := hide hl5
                clear hm5 hl5
                obtain ⟨_, c1, c2, c3⟩ := M5.out.cells
                by_cases hkl : k < x.T.length
                · have e2 : decide (k < x.T.length) = true := by rw [decide_eq_true_iff]; exact hkl
                  obtain ⟨ad5, u, hA5, hu, hcell⟩ := HRD.out.at_ hkl
                  have hc5 := (M5.out.two.blw.cell (p := ad5.add k) (by rw [block_of_add]; exact HRL.out (by omega) ad5 hA5)).trans hcell
                  have hu2 : u = .string (x.T[k]'hkl) := by
                    simp only [strs, List.getElem?_map, List.getElem?_eq_getElem hkl, Option.map_some, Option.some.injEq] at hu
                    exact hu.symm
                  subst hu2 hA5
                  clear hu hcell
                  obtain ⟨y, hy⟩ : ∃ y, y = x.T[k]'hkl := ⟨_, rfl⟩
                  rw [← hy] at hc5
                  have HY := hide hy
                  clear hy
                  go_wp2_with fail
                  refine (rtext_any_ w.heap.size q (stS e bs x.T k).1 p5 (stS e bs x.T k).2 y wr M5.out.two.rf (by have := stS_len e bs x.T k; omega) (by have := szT_mem x.T _ (List.getElem_mem hkl); rw [HY.out]; omega) M5.out.two.b1).mono ?_
                  rintro r W6 ⟨rfl, p6, hw6, k6, m6⟩
                  have M6 := hide (M5.out.stepR hw6 k6 m6)
                  have L6 := hide (L5.out.stepR k6 m6)
                  clear hw6 k6 m6 M5 L5 c1 c2 c3 hc5
                  go_wp2_with fail
                  go_roundg (x.T.length - (k + 1))
                  case measure => omega
                  case rel =>
                    refine ⟨k + 1, p6, hkl, rfl, by go_num, ?_, L6.out⟩
                    have h7 := M6.out
                    rw [HY.out, stS_step e bs x.T k hkl] at h7
                    exact h7
                · have e2 : decide (k < x.T.length) = false := by rw [decide_eq_false_iff_not]; exact hkl
                  have hke : k = x.T.length := by omega
                  have HKE := hide hke
                  clear hke
                  go_wp2_with fail
                  refine (stays_texts gm AT x.T.length cm cT x.T wr L5.out.rd (HRD.out.below_ M5.out.two.blw HRL.out) (by omega) hcm (by omega)).mono ?_
                  rintro r W7 ⟨rfl, q7, rfl⟩
                  have M7 := hide (M5.out.quiet (below_drewN (Below.refl _ _) q7))
                  go_wp2_with fail
                  go_meet
                  refine ⟨_, _, _, _, by have h := M7.out.two; rw [HKE.out] at h; exact h, ?_⟩
                  have := stS_len e bs x.T x.T.length; rw [HTK.out]; omega
            have d3 : (x.kind == 2) = false := by rw [beq_eq_false_iff_ne]; exact k2
            by_cases k3 : x.kind = 3
            · have d4 : (x.kind == 3) = true := by rw [beq_iff_eq]; exact k3
              clear k1 k2 k3

              -- kind 3
              have hrd : Reads w AB x.B.length (bools x.B) := SB.out.reads
              have hrl := SB.out.block
              have HRD := hide hrd
              have HRL := hide hrl
              clear hrd hrl
              obtain ⟨_, c1, c2, c3⟩ := M.out.cells
              go_wp2_with fail
              refine (wbool_any w.heap.size g e o bs AB x.B.length cB x.B W2 M.out.two.wr (HRD.out.below_ M.out.two.blw HRL.out) (fun h0 ad h1 hf => by have h8 := HRL.out h0 ad h1; have h9 := M.out.two.wr.base _ hf; omega) (by omega) M.out.two.b1).mono ?_
              rintro r W4 ⟨rfl, o4, hw4, k4, m4⟩
              have M4 := hide (M.out.stepW hw4 k4 m4)
              clear hw4 k4 m4 c1 c2 c3
              go_wp2_with fail
              go_loopg [13] x.B.length (fun left s wx => LoopRel3 w.heap.size w g q o4 e (stB e bs x.B x.B.length).2 b8 (.int .i64 x.kind) (.slice AN x.N.length cN) (.slice AT x.T.length cT) (.slice AB x.B.length cB) x.B.length (stB e bs x.B) left s wx)
              case atStart => exact ⟨0, p, Nat.zero_le _, rfl, rfl, by have h := M4.out; simpa [stB] using h⟩
              case round =>
                clear M4 M
                obtain ⟨k, p5, hk, rfl, rfl, hm5⟩ := hrel
                have M5 := hide hm5
                clear hm5
                obtain ⟨_, c1, c2, c3⟩ := M5.out.cells
                by_cases hkl : k < x.B.length
                · have e2 : decide (k < x.B.length) = true := by rw [decide_eq_true_iff]; exact hkl
                  obtain ⟨ad5, u, hA5, hu, hcell⟩ := HRD.out.at_ hkl
                  have hc5 := (M5.out.two.blw.cell (p := ad5.add k) (by rw [block_of_add]; exact HRL.out (by omega) ad5 hA5)).trans hcell
                  have hu2 : u = .bool (x.B[k]'hkl) := by
                    simp only [bools, List.getElem?_map, List.getElem?_eq_getElem hkl, Option.map_some, Option.some.injEq] at hu
                    exact hu.symm
                  subst hu2 hA5
                  clear hu hcell
                  obtain ⟨y, hy⟩ : ∃ y, y = x.B[k]'hkl := ⟨_, rfl⟩
                  rw [← hy] at hc5
                  have HY := hide hy
                  clear hy
                  go_wp2_with fail
                  refine (rbool_any_ w.heap.size q e p5 _ y wr M5.out.two.rf (by have := stB_len e bs x.B k; omega) M5.out.two.b1).mono ?_
                  rintro r W6 ⟨rfl, p6, hw6, k6, m6⟩
                  have M6 := hide (M5.out.stepR hw6 k6 m6)
                  clear hw6 k6 m6 M5 c1 c2 c3 hc5
                  go_wp2_with fail
                  go_roundg (x.B.length - (k + 1))
                  case measure => omega
                  case rel =>
                    refine ⟨k + 1, p6, hkl, rfl, by go_num, ?_⟩
                    have h7 := M6.out
                    rw [HY.out, stB_step e bs x.B k hkl] at h7
                    exact h7
                · have e2 : decide (k < x.B.length) = false := by rw [decide_eq_false_iff_not]; exact hkl
                  have hke : k = x.B.length := by omega
                  have HKE := hide hke
                  clear hke
                  go_wp2_with fail
                  go_meet
                  refine ⟨_, _, _, _, by have h := M5.out.two; rw [HKE.out] at h; exact h, ?_⟩
                  have := stB_len e bs x.B x.B.length
                  rw [HTK.out]
                  omega
            have d4 : (x.kind == 3) = false := by rw [beq_eq_false_iff_ne]; exact k3
            by_cases k4 : x.kind = 4
            · have d5 : (x.kind == 4) = true := by rw [beq_iff_eq]; exact k4
              clear k1 k2 k3 k4

              -- kind 4
              have hrd : Reads w AN x.N.length (ints x.N) := SN.out.reads
              have hrl := SN.out.block
              have HRD := hide hrd
              have HRL := hide hrl
              clear hrd hrl
              go_wp2_with fail
              go_loopg [14] x.N.length (fun left s wx => LoopRel4 w.heap.size w g q bs b8 (.int .i64 x.kind) (.slice AN x.N.length cN) (.slice AT x.T.length cT) (.slice AB x.B.length cB) x.N.length left s wx)
              case atStart => exact ⟨0, e, o, p, Nat.zero_le _, rfl, rfl, M.out⟩
              case round =>
                clear M
                obtain ⟨k, e5, o5, p5, hk, rfl, rfl, hm5⟩ := hrel
                have M5 := hide hm5
                clear hm5
                obtain ⟨_, c1, c2, c3⟩ := M5.out.cells
                by_cases hkl : k < x.N.length
                · have e2 : decide (k < x.N.length) = true := by rw [decide_eq_true_iff]; exact hkl
                  obtain ⟨ad5, u, hA5, hu, hcell⟩ := HRD.out.at_ hkl
                  have hc5 := (M5.out.two.blw.cell (p := ad5.add k) (by rw [block_of_add]; exact HRL.out (by omega) ad5 hA5)).trans hcell
                  have hu2 : u = .int .i64 (x.N[k]'hkl) := by
                    simp only [ints, List.getElem?_map, List.getElem?_eq_getElem hkl, Option.map_some, Option.some.injEq] at hu
                    exact hu.symm
                  subst hu2 hA5
                  clear hu
                  obtain ⟨y, hy⟩ : ∃ y, y = x.N[k]'hkl := ⟨_, rfl⟩
                  rw [← hy] at hc5 hcell
                  have HY := hide hy
                  have HCL := hide hcell
                  clear hy hcell
                  go_wp2_with fail
                  have CF := (M5.out.fail y (ad := ad5.add k) (by rw [block_of_add]; exact HRL.out (by omega) ad5 rfl) HCL.out (Nat.le_refl _) 1)
                  go_region_held3 (fun w' => w'.cell? ⟨b8, 1, none⟩ = some (.slice (some ad5) x.N.length cN) ∧ w'.cell? (ad5.add k) = some (.int .i64 y)) (go_keep) (first | (go_at_call 33; refine CF.mono ?_; rintro r W6 ⟨rfl, o6, hm6, s1, s2⟩))
                  have M6 := hide hm6
                  clear hm6 CF M5 c1 c2 c3 hc5
                  go_wp2_with fail
                  refine (rfail_any_ w.heap.size q e5 y p5 bs W6 M6.out.two.rf).mono ?_
                  rintro r W7 ⟨rfl, p7, hw7, k7, m7⟩
                  have M7 := hide (M6.out.stepR hw7 k7 m7)
                  clear hw7 k7 m7 M6 s1 s2
                  go_wp2_with fail
                  go_roundg (x.N.length - (k + 1))
                  case measure => omega
                  case rel => exact ⟨k + 1, firstE e5 y, o6, p7, hkl, rfl, by go_num, M7.out⟩
                · have e2 : decide (k < x.N.length) = false := by rw [decide_eq_false_iff_not]; exact hkl
                  go_wp2_with fail
                  go_meet
                  refine ⟨_, _, _, _, M5.out.two, ?_⟩
                  rw [HTK.out]
                  omega
            have d5 : (x.kind == 4) = false := by rw [beq_eq_false_iff_ne]; exact k4
            clear k1 k2 k3 k4
            go_wp2_with fail
            go_meet
            refine ⟨_, _, _, _, M.out.two, ?_⟩
            rw [HTK.out]
            omega
          case rest =>
            clear M
            obtain ⟨e6, o6, p6, bs6, ht6, hb6⟩ := hcut
            have T6 := hide ht6
            have HB6 := hide hb6
            clear ht6 hb6 hb4
            go_wp2_with fail
            refine (wbytes_any w.heap.size g e6 o6 bs6 wc T6.out.wr).mono ?_
            rintro r w7 ⟨rfl, rfl⟩
            go_wp2_with fail
            refine (rbytes_any w.heap.size q e6 p6 bs6 wc T6.out.rf).mono ?_
            rintro r w7 ⟨rfl, t7, hw7⟩
            have T7 := hide (T6.out.quiet (below_drewN (Below.refl _ _) t7))
            rw [← hw7] at T7
            clear hw7 T6
            obtain ⟨cw, _⟩ := T7.out.wr.errCell
            obtain ⟨cr, _⟩ := T7.out.rf.errCell
            have CW := fun t => wrong_at ⟨g, 0, none⟩ e6 (World.drewN w7 t) cw
            generalize outB e6 bs6 = ob
            go_wp2_with fail
            go_quiet (first | (go_at_call 22; exact Calls.quiet_of_same ((CW _).mono fun _ _ h => ⟨h.1, h.2.symm⟩)))
            go_wp2_with fail
            go_roundg (xs.length - (i + 1))
            case measure => omega
            case rel => exact ⟨i + 1, e6, o6, p6, bs6, hlt, rfl, by go_num, T7.out.quiet (below_drewN (Below.refl _ _) _), HB6.out⟩
        · have d1 : decide (i < xs.length) = false := by rw [decide_eq_false_iff_not]; exact hlt
          go_wp2_with fail
          refine (alive3 wr).mono ?_
          rintro r W2 ⟨rfl, hb1⟩
          have HB1 := hide hb1
          clear hb1
          go_wp2_with fail
          go_ret
          exact ⟨rfl, HT.out.blw.trans (HB1.out.mono HT.out.b1)⟩
end Go.Proofs.Ytjhciobkofnjfaa
