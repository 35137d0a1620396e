/- complinelaw15.MatchClosest. Printed by genclosest.py out of closest.base. -/
import Derived.Test.YtjanmnjmnnnfmaaOne
import Derived.Test.YtjanmnjmnnnfmaaBothLaw
import Derived.Test.YtjanmnjmnnnfmaaCertL
namespace Go.Proofs.Ytjanmnjmnnnfmaa
open Go.RowKit RC

/-! The plain law. -/
def candB (x : Ins) (close : Int) (y : Ins) : Bool := !(y.id == x.id || !fitsP x y close)
def nle (x a b : Ins) : Prop := farN x.am a.am < farN x.am b.am ∨ (farN x.am a.am = farN x.am b.am ∧ a.id ≤ b.id)
theorem near_lt (x a b : Ins) : (nearI x a b < 0 → nle x a b) ∧ (¬ nearI x a b < 0 → nle x b a) := by
  unfold nearI or2 cmpI nle
  generalize farN x.am a.am = p
  generalize farN x.am b.am = q
  constructor <;> intro h <;> (repeat' split at h) <;> omega
theorem nle_trans {x a b c : Ins} (h : nle x a b) (k : nle x b c) : nle x a c := by
  unfold nle at *
  omega
theorem nle_refl (x a : Ins) : nle x a a := .inr ⟨rfl, Int.le_refl _⟩
theorem minFrom_le (x : Ins) : ∀ (l : List Ins) (m : Ins), nle x (minFrom (nearI x) m l) m ∧ ∀ y ∈ l, nle x (minFrom (nearI x) m l) y
  | [], m => ⟨nle_refl x m, by simp⟩
  | z :: l, m => by
    simp only [minFrom]
    obtain ⟨h1, h2⟩ := minFrom_le x l (if nearI x z m < 0 then z else m)
    have hz : nle x (if nearI x z m < 0 then z else m) z ∧ nle x (if nearI x z m < 0 then z else m) m := by
      by_cases h : nearI x z m < 0
      · rw [if_pos h]; exact ⟨nle_refl x z, (near_lt x z m).1 h⟩
      · rw [if_neg h]; exact ⟨(near_lt x z m).2 h, nle_refl x m⟩
    refine ⟨nle_trans h1 hz.2, fun y hy => ?_⟩
    rcases List.mem_cons.1 hy with rfl | hy
    · exact nle_trans h1 hz.1
    · exact h2 y hy
theorem minL_le (x : Ins) (d : List Ins) (y : Ins) (hy : y ∈ d) : nle x (minL (nearI x) d) y := by
  cases d with
  | nil => simp at hy
  | cons z l =>
    obtain ⟨h1, h2⟩ := minFrom_le x l z
    show nle x (minFrom (nearI x) z l) y
    rcases List.mem_cons.1 hy with rfl | hy
    · exact h1
    · exact h2 y hy
theorem mate_spec {x : Ins} {close : Int} {d : List Ins} {id : Int} {ok : Bool} (h : (id, ok) = mateP x close d) :
    (ok = true ↔ ∃ y ∈ d, candB x close y = true) ∧ (ok = true → ∃ m ∈ d, candB x close m = true ∧ m.id = id ∧ ∀ y ∈ d, candB x close y = true → nle x m y) := by
  have hmem : ∀ y, y ∈ cand x close d ↔ y ∈ d ∧ candB x close y = true := fun y => by unfold cand candB; exact List.mem_filter
  unfold mateP at h
  by_cases h0 : (cand x close d).length = 0
  · rw [if_pos h0] at h
    cases h
    have hnil := List.eq_nil_of_length_eq_zero h0
    refine ⟨⟨fun h => (by cases h), fun ⟨y, hy, hc⟩ => ?_⟩, fun h => (by cases h)⟩
    have := (hmem y).2 ⟨hy, hc⟩
    rw [hnil] at this
    simp at this
  · rw [if_neg h0] at h
    cases h
    have hm := minL_mem (nearI x) (cand x close d) (by omega)
    have hm2 := (hmem _).1 hm
    exact ⟨⟨fun _ => ⟨_, hm2.1, hm2.2⟩, fun _ => rfl⟩, fun _ => ⟨_, hm2.1, hm2.2, rfl, fun y hy hc => minL_le x _ y ((hmem y).2 ⟨hy, hc⟩)⟩⟩
theorem fits_far {x y : Ins} {close : Int} (h : fitsP x y close = true) : (farN x.am y.am : Int) ≤ close := by
  have ha := (fits_iff x y close).1 h (⟨#[97, 109, 111, 117, 110, 116]⟩, decide (close < 0) || decide (close < farN x.am y.am)) (by simp [chk])
  simp only [Bool.or_eq_false_iff, decide_eq_false_iff_not] at ha
  omega
theorem fits_farI {x y : Ins} {close : Int} (hc : bd close) (h : fitsP x y close = true) : farI x y = farN x.am y.am := by
  have := fits_far h
  unfold bd at hc
  unfold farI
  split <;> omega
theorem cand_iff {x y : Ins} {close : Int} : candB x close y = true ↔ y.id ≠ x.id ∧ fitsP x y close = true := by
  unfold candB
  cases hf : fitsP x y close <;> by_cases hi : y.id = x.id <;> simp [hi]
/-- What the inner loop looks for. -/
def good (x y : Ins) (close id : Int) (z : Ins) : Prop := z.id = id ∧ fitsP x z close = true ∧ farI x z ≤ farI x y ∧ (farI x z < farI x y ∨ id ≤ y.id)
theorem good_of {x y m : Ins} {close id : Int} (hc : bd close) (hm : candB x close m = true) (hi : m.id = id) (hy : candB x close y = true) (h : nle x m y) : good x y close id m := by
  have h1 := (cand_iff.1 hm).2
  have h2 := (cand_iff.1 hy).2
  refine ⟨hi, h1, ?_⟩
  rw [fits_farI hc h1, fits_farI hc h2]
  unfold nle at h
  omega
theorem take_succ {p : Ins → Prop} {d : List Ins} {i : Nat} (hi : i < d.length) : (∃ y ∈ d.take (i + 1), p y) ↔ (∃ y ∈ d.take i, p y) ∨ p d[i] := by
  rw [List.take_succ_eq_append_getElem hi]
  simp only [List.mem_append, List.mem_singleton]
  constructor
  · rintro ⟨y, hy | rfl, hp⟩
    · exact .inl ⟨y, hy, hp⟩
    · exact .inr hp
  · rintro (⟨y, hy, hp⟩ | hp)
    · exact ⟨y, .inl hy, hp⟩
    · exact ⟨_, .inr rfl, hp⟩
theorem seenS_of {W : World} {A : Option Addr} {n : Nat} {d : List Ins} (h : Seen W A n d) (hA : A = none → n = 0) : ∃ g off, SeenS W A g off d := by
  cases A with
  | none =>
    have h0 := hA rfl
    exact ⟨0, 0, fun hn => by have := h.1; omega⟩
  | some ad =>
    refine ⟨ad.block, ad.off, fun hn => ?_⟩
    have hc := h.2 ad rfl
    have hrow : ∀ (i : Nat) (hi : i < d.length) (j : Nat) (v : Value), d[i].row[j]? = some v → (rowsOf d)[i * 21 + j]? = some v := fun i hi j v hv => by
      rw [rows_at d i j hi (by have := (List.getElem?_eq_some_iff.1 hv).1; rw [row_len] at this; exact this)]
      exact hv
    have h00 := hc 0 (.int .i64 d[0].id) (by have := hrow 0 hn 0 _ rfl; simpa using this)
    rw [add_zero_] at h00
    have hsp : ad.spot = none := by
      unfold World.cell? at h00
      split at h00
      · cases hs : ad.spot with
        | none => rfl
        | some s => simp [hs] at h00
      · simp at h00
    obtain ⟨b, o, sp⟩ := ad
    cases hsp
    refine ⟨rfl, fun i y hy j v hv => ?_, World.block_lt_of_cell? W _ h00⟩
    obtain ⟨hi, rfl⟩ := List.getElem?_eq_some_iff.1 hy
    have := hc _ _ (hrow i hi j v hv)
    unfold Addr.add at this
    split at this
    · rename_i e
      have e1 : i * 21 = 0 := by omega
      have e2 : j = 0 := by omega
      show W.cell? ⟨b, o + i * 21 + j, none⟩ = _
      rw [e1, e2]
      exact this
    · show W.cell? ⟨b, o + i * 21 + j, none⟩ = _
      rw [Nat.add_assoc]
      exact this

def ClRel (x : Ins) (X : List Value) (close : Int) (A : Option Addr) (g off : Nat) (d : List Ins) (w : World) (left : Nat) (s9 s10 : Value) (W : World) : Prop :=
  ∃ (i : Nat) (b : Bool), i ≤ d.length ∧ s9 = .bool b ∧ s10 = .int .i64 i ∧ left = d.length - i ∧ (b = true ↔ ∃ y ∈ d.take i, candB x close y = true) ∧ Below w.heap.size w W ∧ W.rangeAt w.heap.size 0 X ∧ w.heap.size < W.heap.size ∧ SeenS W A g off d
def BeRel (x y yy : Ins) (X : List Value) (close id : Int) (A : Option Addr) (g off gy : Nat) (d : List Ins) (w : World) (left : Nat) (s13 s14 : Value) (W : World) : Prop :=
  ∃ (j : Nat) (b : Bool), j ≤ d.length ∧ s13 = .bool b ∧ s14 = .int .i64 j ∧ left = d.length - j ∧ ((∃ z ∈ d.take j, good x y close id z) → b = true) ∧ Below w.heap.size w W ∧ W.rangeAt w.heap.size 0 X ∧ w.heap.size < W.heap.size ∧ SeenS W A g off d ∧ W.rangeAt gy 0 yy.row ∧ gy < W.heap.size

set_option maxHeartbeats 4000000 in
set_option maxRecDepth 100000 in
theorem closest_law (x : Ins) (X : List Value) (close : Int) (A : Option Addr) (n c : Nat) (d : List Ins) (w : World) (hX : RowIs x X) (hc : bd close) (hx : bd x.am) (hs : Seen w A n d) (hA : A = none → n = 0) (hok : ∀ y ∈ d, bd y.am) :
    Calls Try.prog 4 #[.agg X.toArray, .int .i64 close, .slice A n c] w fun r w' => r = .returned (.bool true) ∧ Below w.heap.size w w' := by
  obtain ⟨g, off, hss⟩ := seenS_of hs hA
  have hdl := hs.1
  subst hdl
  have hr1 := (new_row w X hX.len 25).1
  have hb1 : Below w.heap.size w (w.alloc (.cells X.toArray 25)) := (Below.refl _ w).alloc (Nat.le_refl _) _
  have hs1 := hs.below hb1
  have hss1 := hss.below hb1
  have hz1 : (w.alloc (.cells X.toArray 25)).heap.size = w.heap.size + 1 := by simp
  clear hs hss
  obtain ⟨mp, hmp⟩ : ∃ mp, mp = mateP x close d := ⟨_, rfl⟩
  have Hhr1 := hide hr1
  have Hhb1 := hide hb1
  have Hhs1 := hide hs1
  have Hhss1 := hide hss1
  have Hhz1 := hide hz1
  clear hr1 hb1 hs1 hss1 hz1
  go_enter Try.func4, Try.ntmps4
  by_cases h60 : 60 < d.length
  · have d1 : decide (60 < (d.length : Int)) = true := by rw [decide_eq_true_iff]; omega
    have Hhmp := hide hmp
    clear hmp
    go_wp2_with fail
    refine (alive15 _).mono ?_
    rintro r w2 ⟨rfl, hb2⟩
    go_wp2_with fail
    exact ⟨rfl, .bool true, by kernel_rfl, rfl, Hhb1.out.trans (hb2.mono Hhb1.out.size)⟩
  have d1 : decide (60 < (d.length : Int)) = false := by rw [decide_eq_false_iff_not]; omega
  have hM := fun W hs => mate_any x X close A d.length c d W hX hc hx hs hA hok (by omega)
  rw [← hmp] at hM
  obtain ⟨id, ok⟩ := mp
  dsimp only at hM
  obtain ⟨hsp1, hsp2⟩ := mate_spec hmp
  clear hmp
  have HhM := hide hM
  have Hhsp1 := hide hsp1
  have Hhsp2 := hide hsp2
  have HhX := hide hX
  have Hhc := hide hc
  have Hhx := hide hx
  have Hhok := hide hok
  have HhA := hide hA
  clear hM hsp1 hsp2 hX hc hx hok hA
  go_wp2_with (guard_target =~ wpList _ _ _ (Oper.mk _ (Op.load 25 (.tmp 3)) _ _ _ _ :: _) _ _; refine wp_load_row (by rfl) _ rfl w.heap.size 0 rfl X HhX.out.len Hhr1.out ?_)
  refine (HhM.out _ Hhs1.out).mono ?_
  rintro r W2 ⟨rfl, hb2⟩
  have hb2w := Hhb1.out.trans (hb2.mono Hhb1.out.size)
  have hr2 := range_below_ Hhr1.out hb2 (by rw [Hhz1.out]; omega)
  have hss2 := Hhss1.out.below hb2
  have hz2 : w.heap.size < W2.heap.size := by have := hb2.size; rw [Hhz1.out] at this; omega
  clear hb2 Hhr1 Hhb1 Hhs1 Hhss1 Hhz1 HhM
  have Hhb2w := hide hb2w
  have Hhr2 := hide hr2
  have Hhss2 := hide hss2
  have Hhz2 := hide hz2
  clear hb2w hr2 hss2 hz2
  go_wp2_with fail
  go_loopg [9, 10] d.length (fun left s9 s10 wx => ClRel x X close A g off d w left s9 s10 wx)
  case atStart => exact ⟨0, false, Nat.zero_le _, rfl, rfl, rfl, by simp, Hhb2w.out, Hhr2.out, Hhz2.out, Hhss2.out⟩
  case round =>
    clear Hhb2w Hhr2 Hhss2 Hhz2
    obtain ⟨i, b, hi, rfl, rfl, rfl, hbi, hb, hrx, hg0s, hss⟩ := hrel
    by_cases hlt : i < d.length
    · have d2 : decide ((i : Int) < (d.length : Int)) = true := by rw [decide_eq_true_iff]; omega
      obtain ⟨rfl, hat, hgw⟩ := hss (by omega)
      obtain ⟨y, hyd⟩ : ∃ y, y = d[i] := ⟨_, rfl⟩
      obtain ⟨Y, hYr⟩ : ∃ Y, Y = y.row := ⟨_, rfl⟩
      have hY : RowIs y Y := by rw [hYr]; exact row_is _
      have hry := hat.at_ hlt
      rw [← hyd, ← hYr] at hry
      have hy : bd y.am := by rw [hyd]; exact Hhok.out _ (List.getElem_mem hlt)
      have hyin : y ∈ d := by rw [hyd]; exact List.getElem_mem hlt
      have hnx := take_succ (p := fun y => candB x close y = true) hlt
      rw [← hyd] at hnx
      have hg0 := hg0s
      have hX := HhX.out; have hc := Hhc.out; have hx := Hhx.out
      have HhYr := hide hYr
      have Hhyd := hide hyd
      have Hhnx := hide hnx
      have Hhyin := hide hyin
      have Hhbi := hide hbi
      have Hhb := hide hb
      have Hhss := hide hss
      have Hhat := hide hat
      have Hhg0s := hide hg0s
      clear hYr hyd hnx hyin hbi hb hss hat hg0s
      go_wp2_with fail
      cases hideq : (y.id == x.id) with
      | true =>
        refine wp_cert_b [(32, .slice (some ⟨g, off, none⟩) d.length c), (33, .int .i64 (i)), (34, .pointer (some ⟨g, off + i * 21, none⟩)), (35, .pointer (some ⟨g, off + i * 21, none⟩)), (36, .int .i64 (y.id)), (37, .pointer (some ⟨w.heap.size, 0, none⟩)), (38, .int .i64 (x.id)), (39, .bool (true)), (40, .bool (true)), (41, undef), (42, undef), (43, undef), (44, undef), (45, undef), (46, undef), (47, undef), (48, undef), (49, .bool (true))] 18 (by rfl) (by kernel_rfl) (by kernel_rfl) (by kernel_rfl) (by kernel_rfl) ⟨?s0, ?s1, ?s2, ?s3, ?s4, ?s5, ?s6, ?s7, ?s8, ?s9, ?s10, ?s11, ?s12, ?s13, ?s14, ?s15, ?s16, ?s17, trivial⟩ ?_
        case s0 => intro wv hw; exact at_pure hw rfl (by kernel_rfl) (by kernel_rfl)
        case s1 => intro wv hw; exact at_pure hw rfl (by kernel_rfl) (by kernel_rfl)
        case s2 => intro wv hw; exact at_sem (sv := Instr.indexAt 33 (.slice (some ⟨g, off, none⟩) d.length c) (.int .i64 i)) (v := .pointer (some ⟨g, off + i * 21, none⟩)) hw rfl (by kernel_rfl) (by kernel_rfl) (by kernel_rfl) (run_index wv g off _ c i hlt)
        case s3 => intro wv hw; exact at_pure hw rfl (by kernel_rfl) (by kernel_rfl)
        case s4 => intro wv hw; exact at_load (t := 3) (ad := ⟨g, off + i * 21, none⟩) (v := .int .i64 (y.id)) hw rfl (by kernel_rfl) (by kernel_rfl) (by kernel_rfl) (load_int (range_below_ hry hw hgw 0 _ hY.id))
        case s5 => intro wv hw; exact at_pure hw rfl (by kernel_rfl) (by kernel_rfl)
        case s6 => intro wv hw; exact at_load (t := 3) (ad := ⟨w.heap.size, 0, none⟩) (v := .int .i64 (x.id)) hw rfl (by kernel_rfl) (by kernel_rfl) (by kernel_rfl) (load_int (range_below_ hrx hw hg0 0 _ hX.id))
        case s7 => intro wv hw; exact at_run (u := .bool (y.id == x.id)) (v := .bool (true)) hw rfl (by kernel_rfl) (by kernel_rfl) (by kernel_rfl) (by rw [hideq])
        case s8 => intro wv hw; exact at_pure hw rfl (by kernel_rfl) (by kernel_rfl)
        case s9 => intro wv hw; exact at_skip hw rfl (by kernel_rfl) (by kernel_rfl)
        case s10 => intro wv hw; exact at_skip hw rfl (by kernel_rfl) (by kernel_rfl)
        case s11 => intro wv hw; exact at_skip hw rfl (by kernel_rfl) (by kernel_rfl)
        case s12 => intro wv hw; exact at_skip hw rfl (by kernel_rfl) (by kernel_rfl)
        case s13 => intro wv hw; exact at_skip hw rfl (by kernel_rfl) (by kernel_rfl)
        case s14 => intro wv hw; exact at_skip hw rfl (by kernel_rfl) (by kernel_rfl)
        case s15 => intro wv hw; exact at_skip hw rfl (by kernel_rfl) (by kernel_rfl)
        case s16 => intro wv hw; exact at_skip hw rfl (by kernel_rfl) (by kernel_rfl)
        case s17 => intro wv hw; exact at_pure hw rfl (by kernel_rfl) (by kernel_rfl)
        intro W' hbw'
        simp only [putL_cons, putL_nil, Act.put, List.setIfInBounds_toArray, List.set_cons_succ, List.set_cons_zero]
        have hcf : candB x close y = false := by unfold candB; rw [hideq]; rfl
        have q1 := Hhb.out.trans (hbw'.mono Hhb.out.size)
        have q2 := range_below_ hrx hbw' hg0
        have q3 := Hhss.out.below hbw'
        have q4 := hbw'.size
        have Hq1 := hide q1
        have Hq2 := hide q2
        have Hq3 := hide q3
        have Hq4 := hide q4
        have Hhcf := hide hcf
        have HhX := hide hX
        have Hhc := hide hc
        have Hhx := hide hx
        have Hhrx := hide hrx
        have Hhry := hide hry
        have Hhgw := hide hgw
        have Hhg0 := hide hg0
        have Hhideq := hide hideq
        have Hhbw' := hide hbw'
        have HhY := hide hY
        have Hhy := hide hy
        clear q1 q2 q3 q4 hcf hX hc hx hrx hry hgw hg0 hideq hbw' hY hy
        go_wp2_with fail
        go_roundg (d.length - (i + 1))
        case measure => omega
        case rel => exact ⟨i + 1, b, hlt, rfl, by go_num, rfl, by rw [Hhnx.out, ← Hhbi.out, Hhcf.out]; simp, Hq1.out, Hq2.out, by have := Hq4.out; have := Hhg0.out; omega, Hq3.out⟩
      | false =>
        cases hfits : fitsP x y close with
        | false =>
          refine wp_cert_b [(32, .slice (some ⟨g, off, none⟩) d.length c), (33, .int .i64 (i)), (34, .pointer (some ⟨g, off + i * 21, none⟩)), (35, .pointer (some ⟨g, off + i * 21, none⟩)), (36, .int .i64 (y.id)), (37, .pointer (some ⟨w.heap.size, 0, none⟩)), (38, .int .i64 (x.id)), (39, .bool (false)), (40, .bool (false)), (41, .agg X.toArray), (42, .slice (some ⟨g, off, none⟩) d.length c), (43, .int .i64 (i)), (44, .pointer (some ⟨g, off + i * 21, none⟩)), (45, .agg Y.toArray), (46, .int .i64 (close)), (47, .bool (false)), (48, .bool (true)), (49, .bool (true))] 18 (by rfl) (by kernel_rfl) (by kernel_rfl) (by kernel_rfl) (by kernel_rfl) ⟨?s0, ?s1, ?s2, ?s3, ?s4, ?s5, ?s6, ?s7, ?s8, ?s9, ?s10, ?s11, ?s12, ?s13, ?s14, ?s15, ?s16, ?s17, trivial⟩ ?_
          case s0 => intro wv hw; exact at_pure hw rfl (by kernel_rfl) (by kernel_rfl)
          case s1 => intro wv hw; exact at_pure hw rfl (by kernel_rfl) (by kernel_rfl)
          case s2 => intro wv hw; exact at_sem (sv := Instr.indexAt 33 (.slice (some ⟨g, off, none⟩) d.length c) (.int .i64 i)) (v := .pointer (some ⟨g, off + i * 21, none⟩)) hw rfl (by kernel_rfl) (by kernel_rfl) (by kernel_rfl) (run_index wv g off _ c i hlt)
          case s3 => intro wv hw; exact at_pure hw rfl (by kernel_rfl) (by kernel_rfl)
          case s4 => intro wv hw; exact at_load (t := 3) (ad := ⟨g, off + i * 21, none⟩) (v := .int .i64 (y.id)) hw rfl (by kernel_rfl) (by kernel_rfl) (by kernel_rfl) (load_int (range_below_ hry hw hgw 0 _ hY.id))
          case s5 => intro wv hw; exact at_pure hw rfl (by kernel_rfl) (by kernel_rfl)
          case s6 => intro wv hw; exact at_load (t := 3) (ad := ⟨w.heap.size, 0, none⟩) (v := .int .i64 (x.id)) hw rfl (by kernel_rfl) (by kernel_rfl) (by kernel_rfl) (load_int (range_below_ hrx hw hg0 0 _ hX.id))
          case s7 => intro wv hw; exact at_run (u := .bool (y.id == x.id)) (v := .bool (false)) hw rfl (by kernel_rfl) (by kernel_rfl) (by kernel_rfl) (by rw [hideq])
          case s8 => intro wv hw; exact at_pure hw rfl (by kernel_rfl) (by kernel_rfl)
          case s9 => intro wv hw; exact at_load (t := 25) (ad := ⟨w.heap.size, 0, none⟩) (v := .agg X.toArray) hw rfl (by kernel_rfl) (by kernel_rfl) (by kernel_rfl) (run_load_row hX.len (range_below_ hrx hw hg0))
          case s10 => intro wv hw; exact at_pure hw rfl (by kernel_rfl) (by kernel_rfl)
          case s11 => intro wv hw; exact at_pure hw rfl (by kernel_rfl) (by kernel_rfl)
          case s12 => intro wv hw; exact at_sem (sv := Instr.indexAt 33 (.slice (some ⟨g, off, none⟩) d.length c) (.int .i64 i)) (v := .pointer (some ⟨g, off + i * 21, none⟩)) hw rfl (by kernel_rfl) (by kernel_rfl) (by kernel_rfl) (run_index wv g off _ c i hlt)
          case s13 => intro wv hw; exact at_load (t := 25) (ad := ⟨g, off + i * 21, none⟩) (v := .agg Y.toArray) hw rfl (by kernel_rfl) (by kernel_rfl) (by kernel_rfl) (run_load_row hY.len (range_below_ hry hw hgw))
          case s14 => intro wv hw; exact at_pure hw rfl (by kernel_rfl) (by kernel_rfl)
          case s15 => intro wv hw; exact at_call_b (v := .bool (false)) hw rfl (by kernel_rfl) (by kernel_rfl) (by kernel_rfl) (by have h := fits_any x y X Y close wv hX hY hc hx hy; rw [hfits] at h; exact h)
          case s16 => intro wv hw; exact at_pure hw rfl (by kernel_rfl) (by kernel_rfl)
          case s17 => intro wv hw; exact at_pure hw rfl (by kernel_rfl) (by kernel_rfl)
          intro W' hbw'
          simp only [putL_cons, putL_nil, Act.put, List.setIfInBounds_toArray, List.set_cons_succ, List.set_cons_zero]
          have hcf : candB x close y = false := by unfold candB; rw [hideq, hfits]; rfl
          have q1 := Hhb.out.trans (hbw'.mono Hhb.out.size)
          have q2 := range_below_ hrx hbw' hg0
          have q3 := Hhss.out.below hbw'
          have q4 := hbw'.size
          have Hq1 := hide q1
          have Hq2 := hide q2
          have Hq3 := hide q3
          have Hq4 := hide q4
          have Hhcf := hide hcf
          have HhX := hide hX
          have Hhc := hide hc
          have Hhx := hide hx
          have Hhrx := hide hrx
          have Hhry := hide hry
          have Hhgw := hide hgw
          have Hhg0 := hide hg0
          have Hhideq := hide hideq
          have Hhbw' := hide hbw'
          have HhY := hide hY
          have Hhy := hide hy
          have Hhfits := hide hfits
          clear q1 q2 q3 q4 hcf hX hc hx hrx hry hgw hg0 hideq hbw' hY hy hfits
          go_wp2_with fail
          go_roundg (d.length - (i + 1))
          case measure => omega
          case rel => exact ⟨i + 1, b, hlt, rfl, by go_num, rfl, by rw [Hhnx.out, ← Hhbi.out, Hhcf.out]; simp, Hq1.out, Hq2.out, by have := Hq4.out; have := Hhg0.out; omega, Hq3.out⟩
        | true =>
          refine wp_cert_b [(32, .slice (some ⟨g, off, none⟩) d.length c), (33, .int .i64 (i)), (34, .pointer (some ⟨g, off + i * 21, none⟩)), (35, .pointer (some ⟨g, off + i * 21, none⟩)), (36, .int .i64 (y.id)), (37, .pointer (some ⟨w.heap.size, 0, none⟩)), (38, .int .i64 (x.id)), (39, .bool (false)), (40, .bool (false)), (41, .agg X.toArray), (42, .slice (some ⟨g, off, none⟩) d.length c), (43, .int .i64 (i)), (44, .pointer (some ⟨g, off + i * 21, none⟩)), (45, .agg Y.toArray), (46, .int .i64 (close)), (47, .bool (true)), (48, .bool (false)), (49, .bool (false))] 18 (by rfl) (by kernel_rfl) (by kernel_rfl) (by kernel_rfl) (by kernel_rfl) ⟨?s0, ?s1, ?s2, ?s3, ?s4, ?s5, ?s6, ?s7, ?s8, ?s9, ?s10, ?s11, ?s12, ?s13, ?s14, ?s15, ?s16, ?s17, trivial⟩ ?_
          case s0 => intro wv hw; exact at_pure hw rfl (by kernel_rfl) (by kernel_rfl)
          case s1 => intro wv hw; exact at_pure hw rfl (by kernel_rfl) (by kernel_rfl)
          case s2 => intro wv hw; exact at_sem (sv := Instr.indexAt 33 (.slice (some ⟨g, off, none⟩) d.length c) (.int .i64 i)) (v := .pointer (some ⟨g, off + i * 21, none⟩)) hw rfl (by kernel_rfl) (by kernel_rfl) (by kernel_rfl) (run_index wv g off _ c i hlt)
          case s3 => intro wv hw; exact at_pure hw rfl (by kernel_rfl) (by kernel_rfl)
          case s4 => intro wv hw; exact at_load (t := 3) (ad := ⟨g, off + i * 21, none⟩) (v := .int .i64 (y.id)) hw rfl (by kernel_rfl) (by kernel_rfl) (by kernel_rfl) (load_int (range_below_ hry hw hgw 0 _ hY.id))
          case s5 => intro wv hw; exact at_pure hw rfl (by kernel_rfl) (by kernel_rfl)
          case s6 => intro wv hw; exact at_load (t := 3) (ad := ⟨w.heap.size, 0, none⟩) (v := .int .i64 (x.id)) hw rfl (by kernel_rfl) (by kernel_rfl) (by kernel_rfl) (load_int (range_below_ hrx hw hg0 0 _ hX.id))
          case s7 => intro wv hw; exact at_run (u := .bool (y.id == x.id)) (v := .bool (false)) hw rfl (by kernel_rfl) (by kernel_rfl) (by kernel_rfl) (by rw [hideq])
          case s8 => intro wv hw; exact at_pure hw rfl (by kernel_rfl) (by kernel_rfl)
          case s9 => intro wv hw; exact at_load (t := 25) (ad := ⟨w.heap.size, 0, none⟩) (v := .agg X.toArray) hw rfl (by kernel_rfl) (by kernel_rfl) (by kernel_rfl) (run_load_row hX.len (range_below_ hrx hw hg0))
          case s10 => intro wv hw; exact at_pure hw rfl (by kernel_rfl) (by kernel_rfl)
          case s11 => intro wv hw; exact at_pure hw rfl (by kernel_rfl) (by kernel_rfl)
          case s12 => intro wv hw; exact at_sem (sv := Instr.indexAt 33 (.slice (some ⟨g, off, none⟩) d.length c) (.int .i64 i)) (v := .pointer (some ⟨g, off + i * 21, none⟩)) hw rfl (by kernel_rfl) (by kernel_rfl) (by kernel_rfl) (run_index wv g off _ c i hlt)
          case s13 => intro wv hw; exact at_load (t := 25) (ad := ⟨g, off + i * 21, none⟩) (v := .agg Y.toArray) hw rfl (by kernel_rfl) (by kernel_rfl) (by kernel_rfl) (run_load_row hY.len (range_below_ hry hw hgw))
          case s14 => intro wv hw; exact at_pure hw rfl (by kernel_rfl) (by kernel_rfl)
          case s15 => intro wv hw; exact at_call_b (v := .bool (true)) hw rfl (by kernel_rfl) (by kernel_rfl) (by kernel_rfl) (by have h := fits_any x y X Y close wv hX hY hc hx hy; rw [hfits] at h; exact h)
          case s16 => intro wv hw; exact at_pure hw rfl (by kernel_rfl) (by kernel_rfl)
          case s17 => intro wv hw; exact at_pure hw rfl (by kernel_rfl) (by kernel_rfl)
          intro W' hbw'
          simp only [putL_cons, putL_nil, Act.put, List.setIfInBounds_toArray, List.set_cons_succ, List.set_cons_zero]
          have hcf : candB x close y = true := by unfold candB; rw [hideq, hfits]; rfl
          have hokt : ok = true := Hhsp1.out.2 ⟨y, Hhyin.out, hcf⟩
          subst hokt
          obtain ⟨m, hmd, hmc, hmi, hml⟩ := Hhsp2.out rfl
          have hgm := good_of hc hmc hmi hcf (hml y Hhyin.out hcf)
          have q1 := Hhb.out.trans (hbw'.mono Hhb.out.size)
          have q2 := range_below_ hrx hbw' hg0
          have q3 := Hhss.out.below hbw'
          have q4 := hbw'.size
          have q5 := range_below_ hry hbw' hgw
          have hgw2 : g < W'.heap.size := by omega
          have hg02 : w.heap.size < W'.heap.size := by omega
          have hmd60 : d.length ≤ 1000000000 := by omega
          clear hml hrx hry hgw hg0 hbw' Hhss Hhb Hhg0s hideq
          have Hq1 := hide q1
          have Hq2 := hide q2
          have Hq3 := hide q3
          have Hq4 := hide q4
          have Hq5 := hide q5
          have Hhcf := hide hcf
          have HhX := hide hX
          have Hhc := hide hc
          have Hhx := hide hx
          have HhY := hide hY
          have Hhy := hide hy
          have Hhfits := hide hfits
          have Hhmd := hide hmd
          have Hhmc := hide hmc
          have Hhmi := hide hmi
          have Hhgm := hide hgm
          have Hhgw2 := hide hgw2
          have Hhg02 := hide hg02
          have Hhmd60 := hide hmd60
          clear q1 q2 q3 q4 q5 hcf hX hc hx hY hy hfits hmd hmc hmi hgm hgw2 hg02 hmd60
          go_wp2_with fail
          refine (one_any id (some ⟨g, off, none⟩) g off d.length c d W' rfl Hq3.out Hhmd60.out).mono ?_
          rintro r W3 ⟨⟨yy, bb, rfl, hy1, hy2⟩, hb3⟩
          have hbb := hy2 ⟨m, Hhmd.out, Hhmi.out⟩
          subst hbb
          have hyyi := hy1 rfl
          clear hy1 hy2
          obtain ⟨YY, hYY⟩ : ∃ YY, YY = yy.row := ⟨_, rfl⟩
          have hYYl : YY.length = 21 := by rw [hYY]; rfl
          have hYYo : ∀ v ∈ YY, v.oneCell' = true := by rw [hYY]; exact row_one _
          have p1 := Hq1.out.trans (hb3.mono Hq1.out.size)
          have p2 := range_below_ Hq2.out hb3 Hhg02.out
          have p3 := Hq3.out.below hb3
          have p5 := range_below_ Hq5.out hb3 Hhgw2.out
          have p6 : w.heap.size < W3.heap.size := by have := hb3.size; have := Hhg02.out; omega
          have p7 : g < W3.heap.size := by have := hb3.size; have := Hhgw2.out; omega
          clear Hq1 Hq2 Hq3 Hq4 Hq5 Hhg02 Hhgw2 hb3
          rw [← hYY]
          have Hp1 := hide p1
          have Hp2 := hide p2
          have Hp3 := hide p3
          have Hp5 := hide p5
          have Hp6 := hide p6
          have Hp7 := hide p7
          have Hhyyi := hide hyyi
          have HhYY := hide hYY
          have HhYYo := hide hYYo
          clear p1 p2 p3 p5 p6 p7 hyyi hYY hYYo
          go_wp2_with (guard_target =~ wpList _ _ _ (Oper.mk _ (Op.store 25 (.tmp 11) _) _ _ _ _ :: _) _ _; refine wp_store_row rfl _ _ rfl W3.heap.size 0 rfl YY rfl hYYl HhYYo.out (there_new_at _ _ _ rfl rfl) ?_)
          obtain ⟨gy, hgyd⟩ : ∃ gy, gy = W3.heap.size := ⟨_, rfl⟩
          refine wp_world (fun W => W.rangeAt gy 0 YY ∧ gy < W.heap.size ∧ Below W3.heap.size W3 W) ?_ ?_
          · obtain ⟨l1, o1, s1⟩ := laid_new (w := W3) (W := W3) (k := 0) (X := YY) rfl hYYl
            rw [Nat.add_zero] at l1 o1 s1
            refine ⟨?_, ?_, Only.toBelow o1 (Nat.le_refl _) (fun _ h => absurd h _root_.id)⟩
            · rw [hgyd]; exact l1.r
            · rw [hgyd]; exact l1.sz
          rintro W4 ⟨hyr, hyz, hb4⟩
          rw [← hgyd]
          have o1 := Hp1.out.trans (hb4.mono Hp1.out.size)
          have o2 := range_below_ Hp2.out hb4 Hp6.out
          have o3 := Hp3.out.below hb4
          have o6 : w.heap.size < W4.heap.size := by have := hb4.size; have := Hp6.out; omega
          rw [HhYY.out] at hyr
          have o7 := HhYY.out
          clear Hp1 Hp2 Hp3 Hp5 Hp6 Hp7 hb4 HhYY HhYYo
          have Ho1 := hide o1
          have Ho2 := hide o2
          have Ho3 := hide o3
          have Ho6 := hide o6
          have Ho7 := hide o7
          have Hhyr := hide hyr
          have Hhyz := hide hyz
          have Hhgyd := hide hgyd
          clear o1 o2 o3 o6 o7 hyr hyz hgyd
          go_loopg [13, 14] d.length (fun left s13 s14 wx => BeRel x y yy X close id (some ⟨g, off, none⟩) g off gy d w left s13 s14 wx)
          case atStart => exact ⟨0, false, Nat.zero_le _, rfl, rfl, rfl, fun h => (by simp at h), Ho1.out, Ho2.out, Ho6.out, Ho3.out, Hhyr.out, Hhyz.out⟩
          case round =>
            clear Ho1 Ho2 Ho3 Ho6 Hhyr Hhyz
            obtain ⟨j, b2, hj, rfl, rfl, rfl, hbj, hb, hrx, hg0, hss, hryy, hgyz⟩ := hrel
            by_cases hlj : j < d.length
            · have d3 : decide ((j : Int) < (d.length : Int)) = true := by rw [decide_eq_true_iff]; omega
              obtain ⟨_, hat, hgw⟩ := hss (by omega)
              obtain ⟨z, hzd⟩ : ∃ z, z = d[j] := ⟨_, rfl⟩
              obtain ⟨Z, hZr⟩ : ∃ Z, Z = z.row := ⟨_, rfl⟩
              have hZ : RowIs z Z := by rw [hZr]; exact row_is _
              have hrz := hat.at_ hlj
              rw [← hzd, ← hZr] at hrz
              have hz : bd z.am := by rw [hzd]; exact Hhok.out _ (List.getElem_mem hlj)
              have hnj := take_succ (p := good x y close id) hlj
              rw [← hzd] at hnj
              have hry : wr.rangeAt g (off + i * 21) Y := by
                have := hat.at_ hlt
                rw [HhYr.out, Hhyd.out]; exact this
              obtain ⟨fz, hfz⟩ : ∃ fz, fz = farI x z := ⟨_, rfl⟩
              obtain ⟨fy, hfy⟩ : ∃ fy, fy = farI x y := ⟨_, rfl⟩
              obtain ⟨le, hle⟩ : ∃ le, le = decide (id ≤ y.id) := ⟨_, rfl⟩
              have hX := HhX.out; have hc := Hhc.out; have hx := Hhx.out; have hY := HhY.out; have hy := Hhy.out
              clear hZr hzd
              have Hhnj := hide hnj
              have Hhb := hide hb
              have Hhss := hide hss
              have Hhat := hide hat
              have Hhbj := hide hbj
              have Hhryy := hide hryy
              have Hhgyz := hide hgyz
              clear hnj hb hss hat hbj hryy hgyz
              go_wp2_with fail
              cases b2 with
              | true =>
                refine wp_cert_last [(68, .bool (true)), (69, .bool (true)), (70, undef), (71, undef), (72, undef), (73, undef), (74, undef), (75, undef), (76, undef), (77, undef), (78, undef), (79, undef), (80, undef), (81, undef), (82, undef), (83, undef), (84, undef), (85, undef), (86, undef), (87, undef), (88, undef), (89, undef), (90, undef), (91, undef), (92, undef), (93, undef), (94, undef), (95, undef), (96, undef), (97, undef), (98, undef), (99, undef), (100, undef), (101, undef), (102, undef), (103, undef), (104, undef), (105, undef), (106, undef), (107, undef), (108, undef), (109, undef), (110, undef), (111, undef), (112, undef), (113, undef), (114, undef), (115, undef), (116, undef), (117, undef), (118, undef), (119, undef), (120, undef), (121, undef), (122, undef), (123, undef), (124, undef), (125, .bool (true))] 59 58 13 (.bool (true)) (by rfl) (by kernel_rfl) (by kernel_rfl) (by kernel_rfl) (by kernel_rfl) (by kernel_rfl) ⟨?s0, ?s1, ?s2, ?s3, ?s4, ?s5, ?s6, ?s7, ?s8, ?s9, ?s10, ?s11, ?s12, ?s13, ?s14, ?s15, ?s16, ?s17, ?s18, ?s19, ?s20, ?s21, ?s22, ?s23, ?s24, ?s25, ?s26, ?s27, ?s28, ?s29, ?s30, ?s31, ?s32, ?s33, ?s34, ?s35, ?s36, ?s37, ?s38, ?s39, ?s40, ?s41, ?s42, ?s43, ?s44, ?s45, ?s46, ?s47, ?s48, ?s49, ?s50, ?s51, ?s52, ?s53, ?s54, ?s55, ?s56, ?s57, ?s58, trivial⟩ ⟨_, rfl, rfl, (by kernel_rfl), fun wv => (by kernel_rfl)⟩ ?_
                case s0 => intro _ wv hw; exact at_pure hw rfl (by kernel_rfl) (by kernel_rfl)
                case s1 => intro _ wv hw; exact at_pure hw rfl (by kernel_rfl) (by kernel_rfl)
                case s2 => intro _ wv hw; exact at_skip hw rfl (by kernel_rfl) (by kernel_rfl)
                case s3 => intro _ wv hw; exact at_skip hw rfl (by kernel_rfl) (by kernel_rfl)
                case s4 => intro _ wv hw; exact at_skip hw rfl (by kernel_rfl) (by kernel_rfl)
                case s5 => intro _ wv hw; exact at_skip hw rfl (by kernel_rfl) (by kernel_rfl)
                case s6 => intro _ wv hw; exact at_skip hw rfl (by kernel_rfl) (by kernel_rfl)
                case s7 => intro _ wv hw; exact at_skip hw rfl (by kernel_rfl) (by kernel_rfl)
                case s8 => intro _ wv hw; exact at_skip hw rfl (by kernel_rfl) (by kernel_rfl)
                case s9 => intro _ wv hw; exact at_skip hw rfl (by kernel_rfl) (by kernel_rfl)
                case s10 => intro _ wv hw; exact at_skip hw rfl (by kernel_rfl) (by kernel_rfl)
                case s11 => intro _ wv hw; exact at_skip hw rfl (by kernel_rfl) (by kernel_rfl)
                case s12 => intro _ wv hw; exact at_skip hw rfl (by kernel_rfl) (by kernel_rfl)
                case s13 => intro _ wv hw; exact at_skip hw rfl (by kernel_rfl) (by kernel_rfl)
                case s14 => intro _ wv hw; exact at_skip hw rfl (by kernel_rfl) (by kernel_rfl)
                case s15 => intro _ wv hw; exact at_skip hw rfl (by kernel_rfl) (by kernel_rfl)
                case s16 => intro _ wv hw; exact at_skip hw rfl (by kernel_rfl) (by kernel_rfl)
                case s17 => intro _ wv hw; exact at_skip hw rfl (by kernel_rfl) (by kernel_rfl)
                case s18 => intro _ wv hw; exact at_skip hw rfl (by kernel_rfl) (by kernel_rfl)
                case s19 => intro _ wv hw; exact at_skip hw rfl (by kernel_rfl) (by kernel_rfl)
                case s20 => intro _ wv hw; exact at_skip hw rfl (by kernel_rfl) (by kernel_rfl)
                case s21 => intro _ wv hw; exact at_skip hw rfl (by kernel_rfl) (by kernel_rfl)
                case s22 => intro _ wv hw; exact at_skip hw rfl (by kernel_rfl) (by kernel_rfl)
                case s23 => intro _ wv hw; exact at_skip hw rfl (by kernel_rfl) (by kernel_rfl)
                case s24 => intro _ wv hw; exact at_skip hw rfl (by kernel_rfl) (by kernel_rfl)
                case s25 => intro _ wv hw; exact at_skip hw rfl (by kernel_rfl) (by kernel_rfl)
                case s26 => intro _ wv hw; exact at_skip hw rfl (by kernel_rfl) (by kernel_rfl)
                case s27 => intro _ wv hw; exact at_skip hw rfl (by kernel_rfl) (by kernel_rfl)
                case s28 => intro _ wv hw; exact at_skip hw rfl (by kernel_rfl) (by kernel_rfl)
                case s29 => intro _ wv hw; exact at_skip hw rfl (by kernel_rfl) (by kernel_rfl)
                case s30 => intro _ wv hw; exact at_skip hw rfl (by kernel_rfl) (by kernel_rfl)
                case s31 => intro _ wv hw; exact at_skip hw rfl (by kernel_rfl) (by kernel_rfl)
                case s32 => intro _ wv hw; exact at_skip hw rfl (by kernel_rfl) (by kernel_rfl)
                case s33 => intro _ wv hw; exact at_skip hw rfl (by kernel_rfl) (by kernel_rfl)
                case s34 => intro _ wv hw; exact at_skip hw rfl (by kernel_rfl) (by kernel_rfl)
                case s35 => intro _ wv hw; exact at_skip hw rfl (by kernel_rfl) (by kernel_rfl)
                case s36 => intro _ wv hw; exact at_skip hw rfl (by kernel_rfl) (by kernel_rfl)
                case s37 => intro _ wv hw; exact at_skip hw rfl (by kernel_rfl) (by kernel_rfl)
                case s38 => intro _ wv hw; exact at_skip hw rfl (by kernel_rfl) (by kernel_rfl)
                case s39 => intro _ wv hw; exact at_skip hw rfl (by kernel_rfl) (by kernel_rfl)
                case s40 => intro _ wv hw; exact at_skip hw rfl (by kernel_rfl) (by kernel_rfl)
                case s41 => intro _ wv hw; exact at_skip hw rfl (by kernel_rfl) (by kernel_rfl)
                case s42 => intro _ wv hw; exact at_skip hw rfl (by kernel_rfl) (by kernel_rfl)
                case s43 => intro _ wv hw; exact at_skip hw rfl (by kernel_rfl) (by kernel_rfl)
                case s44 => intro _ wv hw; exact at_skip hw rfl (by kernel_rfl) (by kernel_rfl)
                case s45 => intro _ wv hw; exact at_skip hw rfl (by kernel_rfl) (by kernel_rfl)
                case s46 => intro _ wv hw; exact at_skip hw rfl (by kernel_rfl) (by kernel_rfl)
                case s47 => intro _ wv hw; exact at_skip hw rfl (by kernel_rfl) (by kernel_rfl)
                case s48 => intro _ wv hw; exact at_skip hw rfl (by kernel_rfl) (by kernel_rfl)
                case s49 => intro _ wv hw; exact at_skip hw rfl (by kernel_rfl) (by kernel_rfl)
                case s50 => intro _ wv hw; exact at_skip hw rfl (by kernel_rfl) (by kernel_rfl)
                case s51 => intro _ wv hw; exact at_skip hw rfl (by kernel_rfl) (by kernel_rfl)
                case s52 => intro _ wv hw; exact at_skip hw rfl (by kernel_rfl) (by kernel_rfl)
                case s53 => intro _ wv hw; exact at_skip hw rfl (by kernel_rfl) (by kernel_rfl)
                case s54 => intro _ wv hw; exact at_skip hw rfl (by kernel_rfl) (by kernel_rfl)
                case s55 => intro _ wv hw; exact at_skip hw rfl (by kernel_rfl) (by kernel_rfl)
                case s56 => intro _ wv hw; exact at_skip hw rfl (by kernel_rfl) (by kernel_rfl)
                case s57 => intro _ wv hw; exact at_pure hw rfl (by kernel_rfl) (by kernel_rfl)
                case s58 => intro h; exact absurd rfl h
                intro W' hbw'
                simp only [putL_cons, putL_nil, Act.put, List.setIfInBounds_toArray, List.set_cons_succ, List.set_cons_zero]
                have q1 := Hhb.out.trans (hbw'.mono Hhb.out.size)
                have q2 := range_below_ hrx hbw' hg0
                have q3 := Hhss.out.below hbw'
                have q4 := hbw'.size
                have q5 := range_below_ Hhryy.out hbw' Hhgyz.out
                have Hq1 := hide q1
                have Hq2 := hide q2
                have Hq3 := hide q3
                have Hq4 := hide q4
                have Hq5 := hide q5
                have HhX := hide hX
                have Hhc := hide hc
                have Hhx := hide hx
                have Hhrx := hide hrx
                have Hhry := hide hry
                have Hhrz := hide hrz
                have Hhgw := hide hgw
                have Hhg0 := hide hg0
                have Hhbw' := hide hbw'
                have HhY := hide hY
                have Hhy := hide hy
                have HhZ := hide hZ
                have Hhz := hide hz
                have Hhfz := hide hfz
                have Hhfy := hide hfy
                have Hhle := hide hle
                clear q1 q2 q3 q4 q5 hX hc hx hrx hry hrz hgw hg0 hbw' hY hy hZ hz hfz hfy hle
                go_wp2_with fail
                go_roundg (d.length - (j + 1))
                case measure => omega
                case rel => exact ⟨j + 1, true, hlj, rfl, by go_num, rfl, (fun _ => rfl), Hq1.out, Hq2.out, by have := Hq4.out; have := Hhg0.out; omega, Hq3.out, Hq5.out, by have := Hq4.out; have := Hhgyz.out; omega⟩
              | false =>
                cases hzid : (z.id == id) with
                | false =>
                  refine wp_cert_last [(68, .bool (false)), (69, .bool (false)), (70, .slice (some ⟨g, off, none⟩) d.length c), (71, .int .i64 (j)), (72, .pointer (some ⟨g, off + j * 21, none⟩)), (73, .pointer (some ⟨g, off + j * 21, none⟩)), (74, .int .i64 (z.id)), (75, .int .i64 (id)), (76, .bool (false)), (77, .bool (false)), (78, undef), (79, undef), (80, undef), (81, undef), (82, undef), (83, undef), (84, undef), (85, .bool (false)), (86, .bool (false)), (87, undef), (88, undef), (89, undef), (90, undef), (91, undef), (92, undef), (93, undef), (94, undef), (95, undef), (96, undef), (97, undef), (98, undef), (99, undef), (100, .bool (false)), (101, .bool (false)), (102, undef), (103, undef), (104, undef), (105, undef), (106, undef), (107, undef), (108, undef), (109, undef), (110, undef), (111, undef), (112, undef), (113, undef), (114, undef), (115, undef), (116, undef), (117, undef), (118, undef), (119, undef), (120, undef), (121, undef), (122, undef), (123, undef), (124, .bool (false)), (125, .bool (false))] 59 58 13 (.bool (false)) (by rfl) (by kernel_rfl) (by kernel_rfl) (by kernel_rfl) (by kernel_rfl) (by kernel_rfl) ⟨?s0, ?s1, ?s2, ?s3, ?s4, ?s5, ?s6, ?s7, ?s8, ?s9, ?s10, ?s11, ?s12, ?s13, ?s14, ?s15, ?s16, ?s17, ?s18, ?s19, ?s20, ?s21, ?s22, ?s23, ?s24, ?s25, ?s26, ?s27, ?s28, ?s29, ?s30, ?s31, ?s32, ?s33, ?s34, ?s35, ?s36, ?s37, ?s38, ?s39, ?s40, ?s41, ?s42, ?s43, ?s44, ?s45, ?s46, ?s47, ?s48, ?s49, ?s50, ?s51, ?s52, ?s53, ?s54, ?s55, ?s56, ?s57, ?s58, trivial⟩ ⟨_, rfl, rfl, (by kernel_rfl), fun wv => (by kernel_rfl)⟩ ?_
                  case s0 => intro _ wv hw; exact at_pure hw rfl (by kernel_rfl) (by kernel_rfl)
                  case s1 => intro _ wv hw; exact at_pure hw rfl (by kernel_rfl) (by kernel_rfl)
                  case s2 => intro _ wv hw; exact at_pure hw rfl (by kernel_rfl) (by kernel_rfl)
                  case s3 => intro _ wv hw; exact at_pure hw rfl (by kernel_rfl) (by kernel_rfl)
                  case s4 => intro _ wv hw; exact at_sem (sv := Instr.indexAt 33 (.slice (some ⟨g, off, none⟩) d.length c) (.int .i64 j)) (v := .pointer (some ⟨g, off + j * 21, none⟩)) hw rfl (by kernel_rfl) (by kernel_rfl) (by kernel_rfl) (run_index wv g off _ c j hlj)
                  case s5 => intro _ wv hw; exact at_pure hw rfl (by kernel_rfl) (by kernel_rfl)
                  case s6 => intro _ wv hw; exact at_load (t := 3) (ad := ⟨g, off + j * 21, none⟩) (v := .int .i64 (z.id)) hw rfl (by kernel_rfl) (by kernel_rfl) (by kernel_rfl) (load_int (range_below_ hrz hw hgw 0 _ hZ.id))
                  case s7 => intro _ wv hw; exact at_pure hw rfl (by kernel_rfl) (by kernel_rfl)
                  case s8 => intro _ wv hw; exact at_run (u := .bool (z.id == id)) (v := .bool (false)) hw rfl (by kernel_rfl) (by kernel_rfl) (by kernel_rfl) (by rw [hzid])
                  case s9 => intro _ wv hw; exact at_pure hw rfl (by kernel_rfl) (by kernel_rfl)
                  case s10 => intro _ wv hw; exact at_skip hw rfl (by kernel_rfl) (by kernel_rfl)
                  case s11 => intro _ wv hw; exact at_skip hw rfl (by kernel_rfl) (by kernel_rfl)
                  case s12 => intro _ wv hw; exact at_skip hw rfl (by kernel_rfl) (by kernel_rfl)
                  case s13 => intro _ wv hw; exact at_skip hw rfl (by kernel_rfl) (by kernel_rfl)
                  case s14 => intro _ wv hw; exact at_skip hw rfl (by kernel_rfl) (by kernel_rfl)
                  case s15 => intro _ wv hw; exact at_skip hw rfl (by kernel_rfl) (by kernel_rfl)
                  case s16 => intro _ wv hw; exact at_skip hw rfl (by kernel_rfl) (by kernel_rfl)
                  case s17 => intro _ wv hw; exact at_pure hw rfl (by kernel_rfl) (by kernel_rfl)
                  case s18 => intro _ wv hw; exact at_pure hw rfl (by kernel_rfl) (by kernel_rfl)
                  case s19 => intro _ wv hw; exact at_skip hw rfl (by kernel_rfl) (by kernel_rfl)
                  case s20 => intro _ wv hw; exact at_skip hw rfl (by kernel_rfl) (by kernel_rfl)
                  case s21 => intro _ wv hw; exact at_skip hw rfl (by kernel_rfl) (by kernel_rfl)
                  case s22 => intro _ wv hw; exact at_skip hw rfl (by kernel_rfl) (by kernel_rfl)
                  case s23 => intro _ wv hw; exact at_skip hw rfl (by kernel_rfl) (by kernel_rfl)
                  case s24 => intro _ wv hw; exact at_skip hw rfl (by kernel_rfl) (by kernel_rfl)
                  case s25 => intro _ wv hw; exact at_skip hw rfl (by kernel_rfl) (by kernel_rfl)
                  case s26 => intro _ wv hw; exact at_skip hw rfl (by kernel_rfl) (by kernel_rfl)
                  case s27 => intro _ wv hw; exact at_skip hw rfl (by kernel_rfl) (by kernel_rfl)
                  case s28 => intro _ wv hw; exact at_skip hw rfl (by kernel_rfl) (by kernel_rfl)
                  case s29 => intro _ wv hw; exact at_skip hw rfl (by kernel_rfl) (by kernel_rfl)
                  case s30 => intro _ wv hw; exact at_skip hw rfl (by kernel_rfl) (by kernel_rfl)
                  case s31 => intro _ wv hw; exact at_skip hw rfl (by kernel_rfl) (by kernel_rfl)
                  case s32 => intro _ wv hw; exact at_pure hw rfl (by kernel_rfl) (by kernel_rfl)
                  case s33 => intro _ wv hw; exact at_pure hw rfl (by kernel_rfl) (by kernel_rfl)
                  case s34 => intro _ wv hw; exact at_skip hw rfl (by kernel_rfl) (by kernel_rfl)
                  case s35 => intro _ wv hw; exact at_skip hw rfl (by kernel_rfl) (by kernel_rfl)
                  case s36 => intro _ wv hw; exact at_skip hw rfl (by kernel_rfl) (by kernel_rfl)
                  case s37 => intro _ wv hw; exact at_skip hw rfl (by kernel_rfl) (by kernel_rfl)
                  case s38 => intro _ wv hw; exact at_skip hw rfl (by kernel_rfl) (by kernel_rfl)
                  case s39 => intro _ wv hw; exact at_skip hw rfl (by kernel_rfl) (by kernel_rfl)
                  case s40 => intro _ wv hw; exact at_skip hw rfl (by kernel_rfl) (by kernel_rfl)
                  case s41 => intro _ wv hw; exact at_skip hw rfl (by kernel_rfl) (by kernel_rfl)
                  case s42 => intro _ wv hw; exact at_skip hw rfl (by kernel_rfl) (by kernel_rfl)
                  case s43 => intro _ wv hw; exact at_skip hw rfl (by kernel_rfl) (by kernel_rfl)
                  case s44 => intro _ wv hw; exact at_skip hw rfl (by kernel_rfl) (by kernel_rfl)
                  case s45 => intro _ wv hw; exact at_skip hw rfl (by kernel_rfl) (by kernel_rfl)
                  case s46 => intro _ wv hw; exact at_skip hw rfl (by kernel_rfl) (by kernel_rfl)
                  case s47 => intro _ wv hw; exact at_skip hw rfl (by kernel_rfl) (by kernel_rfl)
                  case s48 => intro _ wv hw; exact at_skip hw rfl (by kernel_rfl) (by kernel_rfl)
                  case s49 => intro _ wv hw; exact at_skip hw rfl (by kernel_rfl) (by kernel_rfl)
                  case s50 => intro _ wv hw; exact at_skip hw rfl (by kernel_rfl) (by kernel_rfl)
                  case s51 => intro _ wv hw; exact at_skip hw rfl (by kernel_rfl) (by kernel_rfl)
                  case s52 => intro _ wv hw; exact at_skip hw rfl (by kernel_rfl) (by kernel_rfl)
                  case s53 => intro _ wv hw; exact at_skip hw rfl (by kernel_rfl) (by kernel_rfl)
                  case s54 => intro _ wv hw; exact at_skip hw rfl (by kernel_rfl) (by kernel_rfl)
                  case s55 => intro _ wv hw; exact at_skip hw rfl (by kernel_rfl) (by kernel_rfl)
                  case s56 => intro _ wv hw; exact at_pure hw rfl (by kernel_rfl) (by kernel_rfl)
                  case s57 => intro _ wv hw; exact at_pure hw rfl (by kernel_rfl) (by kernel_rfl)
                  case s58 => intro h; exact absurd rfl h
                  intro W' hbw'
                  simp only [putL_cons, putL_nil, Act.put, List.setIfInBounds_toArray, List.set_cons_succ, List.set_cons_zero]
                  have q1 := Hhb.out.trans (hbw'.mono Hhb.out.size)
                  have q2 := range_below_ hrx hbw' hg0
                  have q3 := Hhss.out.below hbw'
                  have q4 := hbw'.size
                  have q5 := range_below_ Hhryy.out hbw' Hhgyz.out
                  have Hq1 := hide q1
                  have Hq2 := hide q2
                  have Hq3 := hide q3
                  have Hq4 := hide q4
                  have Hq5 := hide q5
                  have HhX := hide hX
                  have Hhc := hide hc
                  have Hhx := hide hx
                  have Hhrx := hide hrx
                  have Hhry := hide hry
                  have Hhrz := hide hrz
                  have Hhgw := hide hgw
                  have Hhg0 := hide hg0
                  have Hhbw' := hide hbw'
                  have HhY := hide hY
                  have Hhy := hide hy
                  have HhZ := hide hZ
                  have Hhz := hide hz
                  have Hhfz := hide hfz
                  have Hhfy := hide hfy
                  have Hhle := hide hle
                  have Hhzid := hide hzid
                  clear q1 q2 q3 q4 q5 hX hc hx hrx hry hrz hgw hg0 hbw' hY hy hZ hz hfz hfy hle hzid
                  go_wp2_with fail
                  go_roundg (d.length - (j + 1))
                  case measure => omega
                  case rel => exact ⟨j + 1, false, hlj, rfl, by go_num, rfl, (fun h => by rcases Hhnj.out.1 h with h | h; exact Hhbj.out h; exact absurd h.1 (by simpa using Hhzid.out)), Hq1.out, Hq2.out, by have := Hq4.out; have := Hhg0.out; omega, Hq3.out, Hq5.out, by have := Hq4.out; have := Hhgyz.out; omega⟩
                | true =>
                  cases hfits : fitsP x z close with
                  | false =>
                    refine wp_cert_last [(68, .bool (false)), (69, .bool (false)), (70, .slice (some ⟨g, off, none⟩) d.length c), (71, .int .i64 (j)), (72, .pointer (some ⟨g, off + j * 21, none⟩)), (73, .pointer (some ⟨g, off + j * 21, none⟩)), (74, .int .i64 (z.id)), (75, .int .i64 (id)), (76, .bool (true)), (77, .bool (true)), (78, .agg X.toArray), (79, .slice (some ⟨g, off, none⟩) d.length c), (80, .int .i64 (j)), (81, .pointer (some ⟨g, off + j * 21, none⟩)), (82, .agg Z.toArray), (83, .int .i64 (close)), (84, .bool (false)), (85, .bool (false)), (86, .bool (false)), (87, undef), (88, undef), (89, undef), (90, undef), (91, undef), (92, undef), (93, undef), (94, undef), (95, undef), (96, undef), (97, undef), (98, undef), (99, undef), (100, .bool (false)), (101, .bool (false)), (102, undef), (103, undef), (104, undef), (105, undef), (106, undef), (107, undef), (108, undef), (109, undef), (110, undef), (111, undef), (112, undef), (113, undef), (114, undef), (115, undef), (116, undef), (117, undef), (118, undef), (119, undef), (120, undef), (121, undef), (122, undef), (123, undef), (124, .bool (false)), (125, .bool (false))] 59 58 13 (.bool (false)) (by rfl) (by kernel_rfl) (by kernel_rfl) (by kernel_rfl) (by kernel_rfl) (by kernel_rfl) ⟨?s0, ?s1, ?s2, ?s3, ?s4, ?s5, ?s6, ?s7, ?s8, ?s9, ?s10, ?s11, ?s12, ?s13, ?s14, ?s15, ?s16, ?s17, ?s18, ?s19, ?s20, ?s21, ?s22, ?s23, ?s24, ?s25, ?s26, ?s27, ?s28, ?s29, ?s30, ?s31, ?s32, ?s33, ?s34, ?s35, ?s36, ?s37, ?s38, ?s39, ?s40, ?s41, ?s42, ?s43, ?s44, ?s45, ?s46, ?s47, ?s48, ?s49, ?s50, ?s51, ?s52, ?s53, ?s54, ?s55, ?s56, ?s57, ?s58, trivial⟩ ⟨_, rfl, rfl, (by kernel_rfl), fun wv => (by kernel_rfl)⟩ ?_
                    case s0 => intro _ wv hw; exact at_pure hw rfl (by kernel_rfl) (by kernel_rfl)
                    case s1 => intro _ wv hw; exact at_pure hw rfl (by kernel_rfl) (by kernel_rfl)
                    case s2 => intro _ wv hw; exact at_pure hw rfl (by kernel_rfl) (by kernel_rfl)
                    case s3 => intro _ wv hw; exact at_pure hw rfl (by kernel_rfl) (by kernel_rfl)
                    case s4 => intro _ wv hw; exact at_sem (sv := Instr.indexAt 33 (.slice (some ⟨g, off, none⟩) d.length c) (.int .i64 j)) (v := .pointer (some ⟨g, off + j * 21, none⟩)) hw rfl (by kernel_rfl) (by kernel_rfl) (by kernel_rfl) (run_index wv g off _ c j hlj)
                    case s5 => intro _ wv hw; exact at_pure hw rfl (by kernel_rfl) (by kernel_rfl)
                    case s6 => intro _ wv hw; exact at_load (t := 3) (ad := ⟨g, off + j * 21, none⟩) (v := .int .i64 (z.id)) hw rfl (by kernel_rfl) (by kernel_rfl) (by kernel_rfl) (load_int (range_below_ hrz hw hgw 0 _ hZ.id))
                    case s7 => intro _ wv hw; exact at_pure hw rfl (by kernel_rfl) (by kernel_rfl)
                    case s8 => intro _ wv hw; exact at_run (u := .bool (z.id == id)) (v := .bool (true)) hw rfl (by kernel_rfl) (by kernel_rfl) (by kernel_rfl) (by rw [hzid])
                    case s9 => intro _ wv hw; exact at_pure hw rfl (by kernel_rfl) (by kernel_rfl)
                    case s10 => intro _ wv hw; exact at_load (t := 25) (ad := ⟨w.heap.size, 0, none⟩) (v := .agg X.toArray) hw rfl (by kernel_rfl) (by kernel_rfl) (by kernel_rfl) (run_load_row hX.len (range_below_ hrx hw hg0))
                    case s11 => intro _ wv hw; exact at_pure hw rfl (by kernel_rfl) (by kernel_rfl)
                    case s12 => intro _ wv hw; exact at_pure hw rfl (by kernel_rfl) (by kernel_rfl)
                    case s13 => intro _ wv hw; exact at_sem (sv := Instr.indexAt 33 (.slice (some ⟨g, off, none⟩) d.length c) (.int .i64 j)) (v := .pointer (some ⟨g, off + j * 21, none⟩)) hw rfl (by kernel_rfl) (by kernel_rfl) (by kernel_rfl) (run_index wv g off _ c j hlj)
                    case s14 => intro _ wv hw; exact at_load (t := 25) (ad := ⟨g, off + j * 21, none⟩) (v := .agg Z.toArray) hw rfl (by kernel_rfl) (by kernel_rfl) (by kernel_rfl) (run_load_row hZ.len (range_below_ hrz hw hgw))
                    case s15 => intro _ wv hw; exact at_pure hw rfl (by kernel_rfl) (by kernel_rfl)
                    case s16 => intro _ wv hw; exact at_call_b (v := .bool (false)) hw rfl (by kernel_rfl) (by kernel_rfl) (by kernel_rfl) (by have h := fits_any x z X Z close wv hX hZ hc hx hz; rw [hfits] at h; exact h)
                    case s17 => intro _ wv hw; exact at_pure hw rfl (by kernel_rfl) (by kernel_rfl)
                    case s18 => intro _ wv hw; exact at_pure hw rfl (by kernel_rfl) (by kernel_rfl)
                    case s19 => intro _ wv hw; exact at_skip hw rfl (by kernel_rfl) (by kernel_rfl)
                    case s20 => intro _ wv hw; exact at_skip hw rfl (by kernel_rfl) (by kernel_rfl)
                    case s21 => intro _ wv hw; exact at_skip hw rfl (by kernel_rfl) (by kernel_rfl)
                    case s22 => intro _ wv hw; exact at_skip hw rfl (by kernel_rfl) (by kernel_rfl)
                    case s23 => intro _ wv hw; exact at_skip hw rfl (by kernel_rfl) (by kernel_rfl)
                    case s24 => intro _ wv hw; exact at_skip hw rfl (by kernel_rfl) (by kernel_rfl)
                    case s25 => intro _ wv hw; exact at_skip hw rfl (by kernel_rfl) (by kernel_rfl)
                    case s26 => intro _ wv hw; exact at_skip hw rfl (by kernel_rfl) (by kernel_rfl)
                    case s27 => intro _ wv hw; exact at_skip hw rfl (by kernel_rfl) (by kernel_rfl)
                    case s28 => intro _ wv hw; exact at_skip hw rfl (by kernel_rfl) (by kernel_rfl)
                    case s29 => intro _ wv hw; exact at_skip hw rfl (by kernel_rfl) (by kernel_rfl)
                    case s30 => intro _ wv hw; exact at_skip hw rfl (by kernel_rfl) (by kernel_rfl)
                    case s31 => intro _ wv hw; exact at_skip hw rfl (by kernel_rfl) (by kernel_rfl)
                    case s32 => intro _ wv hw; exact at_pure hw rfl (by kernel_rfl) (by kernel_rfl)
                    case s33 => intro _ wv hw; exact at_pure hw rfl (by kernel_rfl) (by kernel_rfl)
                    case s34 => intro _ wv hw; exact at_skip hw rfl (by kernel_rfl) (by kernel_rfl)
                    case s35 => intro _ wv hw; exact at_skip hw rfl (by kernel_rfl) (by kernel_rfl)
                    case s36 => intro _ wv hw; exact at_skip hw rfl (by kernel_rfl) (by kernel_rfl)
                    case s37 => intro _ wv hw; exact at_skip hw rfl (by kernel_rfl) (by kernel_rfl)
                    case s38 => intro _ wv hw; exact at_skip hw rfl (by kernel_rfl) (by kernel_rfl)
                    case s39 => intro _ wv hw; exact at_skip hw rfl (by kernel_rfl) (by kernel_rfl)
                    case s40 => intro _ wv hw; exact at_skip hw rfl (by kernel_rfl) (by kernel_rfl)
                    case s41 => intro _ wv hw; exact at_skip hw rfl (by kernel_rfl) (by kernel_rfl)
                    case s42 => intro _ wv hw; exact at_skip hw rfl (by kernel_rfl) (by kernel_rfl)
                    case s43 => intro _ wv hw; exact at_skip hw rfl (by kernel_rfl) (by kernel_rfl)
                    case s44 => intro _ wv hw; exact at_skip hw rfl (by kernel_rfl) (by kernel_rfl)
                    case s45 => intro _ wv hw; exact at_skip hw rfl (by kernel_rfl) (by kernel_rfl)
                    case s46 => intro _ wv hw; exact at_skip hw rfl (by kernel_rfl) (by kernel_rfl)
                    case s47 => intro _ wv hw; exact at_skip hw rfl (by kernel_rfl) (by kernel_rfl)
                    case s48 => intro _ wv hw; exact at_skip hw rfl (by kernel_rfl) (by kernel_rfl)
                    case s49 => intro _ wv hw; exact at_skip hw rfl (by kernel_rfl) (by kernel_rfl)
                    case s50 => intro _ wv hw; exact at_skip hw rfl (by kernel_rfl) (by kernel_rfl)
                    case s51 => intro _ wv hw; exact at_skip hw rfl (by kernel_rfl) (by kernel_rfl)
                    case s52 => intro _ wv hw; exact at_skip hw rfl (by kernel_rfl) (by kernel_rfl)
                    case s53 => intro _ wv hw; exact at_skip hw rfl (by kernel_rfl) (by kernel_rfl)
                    case s54 => intro _ wv hw; exact at_skip hw rfl (by kernel_rfl) (by kernel_rfl)
                    case s55 => intro _ wv hw; exact at_skip hw rfl (by kernel_rfl) (by kernel_rfl)
                    case s56 => intro _ wv hw; exact at_pure hw rfl (by kernel_rfl) (by kernel_rfl)
                    case s57 => intro _ wv hw; exact at_pure hw rfl (by kernel_rfl) (by kernel_rfl)
                    case s58 => intro h; exact absurd rfl h
                    intro W' hbw'
                    simp only [putL_cons, putL_nil, Act.put, List.setIfInBounds_toArray, List.set_cons_succ, List.set_cons_zero]
                    have q1 := Hhb.out.trans (hbw'.mono Hhb.out.size)
                    have q2 := range_below_ hrx hbw' hg0
                    have q3 := Hhss.out.below hbw'
                    have q4 := hbw'.size
                    have q5 := range_below_ Hhryy.out hbw' Hhgyz.out
                    have Hq1 := hide q1
                    have Hq2 := hide q2
                    have Hq3 := hide q3
                    have Hq4 := hide q4
                    have Hq5 := hide q5
                    have HhX := hide hX
                    have Hhc := hide hc
                    have Hhx := hide hx
                    have Hhrx := hide hrx
                    have Hhry := hide hry
                    have Hhrz := hide hrz
                    have Hhgw := hide hgw
                    have Hhg0 := hide hg0
                    have Hhbw' := hide hbw'
                    have HhY := hide hY
                    have Hhy := hide hy
                    have HhZ := hide hZ
                    have Hhz := hide hz
                    have Hhfz := hide hfz
                    have Hhfy := hide hfy
                    have Hhle := hide hle
                    have Hhzid := hide hzid
                    have Hhfits := hide hfits
                    clear q1 q2 q3 q4 q5 hX hc hx hrx hry hrz hgw hg0 hbw' hY hy hZ hz hfz hfy hle hzid hfits
                    go_wp2_with fail
                    go_roundg (d.length - (j + 1))
                    case measure => omega
                    case rel => exact ⟨j + 1, false, hlj, rfl, by go_num, rfl, (fun h => by rcases Hhnj.out.1 h with h | h; exact Hhbj.out h; exact absurd h.2.1 (by rw [Hhfits.out]; simp)), Hq1.out, Hq2.out, by have := Hq4.out; have := Hhg0.out; omega, Hq3.out, Hq5.out, by have := Hq4.out; have := Hhgyz.out; omega⟩
                  | true =>
                    cases hleq : decide (fz ≤ fy) with
                    | false =>
                      refine wp_cert_last [(68, .bool (false)), (69, .bool (false)), (70, .slice (some ⟨g, off, none⟩) d.length c), (71, .int .i64 (j)), (72, .pointer (some ⟨g, off + j * 21, none⟩)), (73, .pointer (some ⟨g, off + j * 21, none⟩)), (74, .int .i64 (z.id)), (75, .int .i64 (id)), (76, .bool (true)), (77, .bool (true)), (78, .agg X.toArray), (79, .slice (some ⟨g, off, none⟩) d.length c), (80, .int .i64 (j)), (81, .pointer (some ⟨g, off + j * 21, none⟩)), (82, .agg Z.toArray), (83, .int .i64 (close)), (84, .bool (true)), (85, .bool (true)), (86, .bool (true)), (87, .agg X.toArray), (88, .slice (some ⟨g, off, none⟩) d.length c), (89, .int .i64 (j)), (90, .pointer (some ⟨g, off + j * 21, none⟩)), (91, .agg Z.toArray), (92, .int .i64 (fz)), (93, .agg X.toArray), (94, .slice (some ⟨g, off, none⟩) d.length c), (95, .int .i64 (i)), (96, .pointer (some ⟨g, off + i * 21, none⟩)), (97, .agg Y.toArray), (98, .int .i64 (fy)), (99, .bool (false)), (100, .bool (false)), (101, .bool (false)), (102, undef), (103, undef), (104, undef), (105, undef), (106, undef), (107, undef), (108, undef), (109, undef), (110, undef), (111, undef), (112, undef), (113, undef), (114, undef), (115, undef), (116, undef), (117, undef), (118, undef), (119, undef), (120, undef), (121, undef), (122, undef), (123, undef), (124, .bool (false)), (125, .bool (false))] 59 58 13 (.bool (false)) (by rfl) (by kernel_rfl) (by kernel_rfl) (by kernel_rfl) (by kernel_rfl) (by kernel_rfl) ⟨?s0, ?s1, ?s2, ?s3, ?s4, ?s5, ?s6, ?s7, ?s8, ?s9, ?s10, ?s11, ?s12, ?s13, ?s14, ?s15, ?s16, ?s17, ?s18, ?s19, ?s20, ?s21, ?s22, ?s23, ?s24, ?s25, ?s26, ?s27, ?s28, ?s29, ?s30, ?s31, ?s32, ?s33, ?s34, ?s35, ?s36, ?s37, ?s38, ?s39, ?s40, ?s41, ?s42, ?s43, ?s44, ?s45, ?s46, ?s47, ?s48, ?s49, ?s50, ?s51, ?s52, ?s53, ?s54, ?s55, ?s56, ?s57, ?s58, trivial⟩ ⟨_, rfl, rfl, (by kernel_rfl), fun wv => (by kernel_rfl)⟩ ?_
                      case s0 => intro _ wv hw; exact at_pure hw rfl (by kernel_rfl) (by kernel_rfl)
                      case s1 => intro _ wv hw; exact at_pure hw rfl (by kernel_rfl) (by kernel_rfl)
                      case s2 => intro _ wv hw; exact at_pure hw rfl (by kernel_rfl) (by kernel_rfl)
                      case s3 => intro _ wv hw; exact at_pure hw rfl (by kernel_rfl) (by kernel_rfl)
                      case s4 => intro _ wv hw; exact at_sem (sv := Instr.indexAt 33 (.slice (some ⟨g, off, none⟩) d.length c) (.int .i64 j)) (v := .pointer (some ⟨g, off + j * 21, none⟩)) hw rfl (by kernel_rfl) (by kernel_rfl) (by kernel_rfl) (run_index wv g off _ c j hlj)
                      case s5 => intro _ wv hw; exact at_pure hw rfl (by kernel_rfl) (by kernel_rfl)
                      case s6 => intro _ wv hw; exact at_load (t := 3) (ad := ⟨g, off + j * 21, none⟩) (v := .int .i64 (z.id)) hw rfl (by kernel_rfl) (by kernel_rfl) (by kernel_rfl) (load_int (range_below_ hrz hw hgw 0 _ hZ.id))
                      case s7 => intro _ wv hw; exact at_pure hw rfl (by kernel_rfl) (by kernel_rfl)
                      case s8 => intro _ wv hw; exact at_run (u := .bool (z.id == id)) (v := .bool (true)) hw rfl (by kernel_rfl) (by kernel_rfl) (by kernel_rfl) (by rw [hzid])
                      case s9 => intro _ wv hw; exact at_pure hw rfl (by kernel_rfl) (by kernel_rfl)
                      case s10 => intro _ wv hw; exact at_load (t := 25) (ad := ⟨w.heap.size, 0, none⟩) (v := .agg X.toArray) hw rfl (by kernel_rfl) (by kernel_rfl) (by kernel_rfl) (run_load_row hX.len (range_below_ hrx hw hg0))
                      case s11 => intro _ wv hw; exact at_pure hw rfl (by kernel_rfl) (by kernel_rfl)
                      case s12 => intro _ wv hw; exact at_pure hw rfl (by kernel_rfl) (by kernel_rfl)
                      case s13 => intro _ wv hw; exact at_sem (sv := Instr.indexAt 33 (.slice (some ⟨g, off, none⟩) d.length c) (.int .i64 j)) (v := .pointer (some ⟨g, off + j * 21, none⟩)) hw rfl (by kernel_rfl) (by kernel_rfl) (by kernel_rfl) (run_index wv g off _ c j hlj)
                      case s14 => intro _ wv hw; exact at_load (t := 25) (ad := ⟨g, off + j * 21, none⟩) (v := .agg Z.toArray) hw rfl (by kernel_rfl) (by kernel_rfl) (by kernel_rfl) (run_load_row hZ.len (range_below_ hrz hw hgw))
                      case s15 => intro _ wv hw; exact at_pure hw rfl (by kernel_rfl) (by kernel_rfl)
                      case s16 => intro _ wv hw; exact at_call_b (v := .bool (true)) hw rfl (by kernel_rfl) (by kernel_rfl) (by kernel_rfl) (by have h := fits_any x z X Z close wv hX hZ hc hx hz; rw [hfits] at h; exact h)
                      case s17 => intro _ wv hw; exact at_pure hw rfl (by kernel_rfl) (by kernel_rfl)
                      case s18 => intro _ wv hw; exact at_pure hw rfl (by kernel_rfl) (by kernel_rfl)
                      case s19 => intro _ wv hw; exact at_load (t := 25) (ad := ⟨w.heap.size, 0, none⟩) (v := .agg X.toArray) hw rfl (by kernel_rfl) (by kernel_rfl) (by kernel_rfl) (run_load_row hX.len (range_below_ hrx hw hg0))
                      case s20 => intro _ wv hw; exact at_pure hw rfl (by kernel_rfl) (by kernel_rfl)
                      case s21 => intro _ wv hw; exact at_pure hw rfl (by kernel_rfl) (by kernel_rfl)
                      case s22 => intro _ wv hw; exact at_sem (sv := Instr.indexAt 33 (.slice (some ⟨g, off, none⟩) d.length c) (.int .i64 j)) (v := .pointer (some ⟨g, off + j * 21, none⟩)) hw rfl (by kernel_rfl) (by kernel_rfl) (by kernel_rfl) (run_index wv g off _ c j hlj)
                      case s23 => intro _ wv hw; exact at_load (t := 25) (ad := ⟨g, off + j * 21, none⟩) (v := .agg Z.toArray) hw rfl (by kernel_rfl) (by kernel_rfl) (by kernel_rfl) (run_load_row hZ.len (range_below_ hrz hw hgw))
                      case s24 => intro _ wv hw; exact at_call_b (v := .int .i64 (fz)) hw rfl (by kernel_rfl) (by kernel_rfl) (by kernel_rfl) (by have h := Far_any x z X Z wv hX hZ hx hz; rw [← hfz] at h; exact h)
                      case s25 => intro _ wv hw; exact at_load (t := 25) (ad := ⟨w.heap.size, 0, none⟩) (v := .agg X.toArray) hw rfl (by kernel_rfl) (by kernel_rfl) (by kernel_rfl) (run_load_row hX.len (range_below_ hrx hw hg0))
                      case s26 => intro _ wv hw; exact at_pure hw rfl (by kernel_rfl) (by kernel_rfl)
                      case s27 => intro _ wv hw; exact at_pure hw rfl (by kernel_rfl) (by kernel_rfl)
                      case s28 => intro _ wv hw; exact at_sem (sv := Instr.indexAt 33 (.slice (some ⟨g, off, none⟩) d.length c) (.int .i64 i)) (v := .pointer (some ⟨g, off + i * 21, none⟩)) hw rfl (by kernel_rfl) (by kernel_rfl) (by kernel_rfl) (run_index wv g off _ c i hlt)
                      case s29 => intro _ wv hw; exact at_load (t := 25) (ad := ⟨g, off + i * 21, none⟩) (v := .agg Y.toArray) hw rfl (by kernel_rfl) (by kernel_rfl) (by kernel_rfl) (run_load_row hY.len (range_below_ hry hw hgw))
                      case s30 => intro _ wv hw; exact at_call_b (v := .int .i64 (fy)) hw rfl (by kernel_rfl) (by kernel_rfl) (by kernel_rfl) (by have h := Far_any x y X Y wv hX hY hx hy; rw [← hfy] at h; exact h)
                      case s31 => intro _ wv hw; exact at_run (u := .bool (decide (fz ≤ fy))) (v := .bool (false)) hw rfl (by kernel_rfl) (by kernel_rfl) (by kernel_rfl) (by rw [hleq])
                      case s32 => intro _ wv hw; exact at_pure hw rfl (by kernel_rfl) (by kernel_rfl)
                      case s33 => intro _ wv hw; exact at_pure hw rfl (by kernel_rfl) (by kernel_rfl)
                      case s34 => intro _ wv hw; exact at_skip hw rfl (by kernel_rfl) (by kernel_rfl)
                      case s35 => intro _ wv hw; exact at_skip hw rfl (by kernel_rfl) (by kernel_rfl)
                      case s36 => intro _ wv hw; exact at_skip hw rfl (by kernel_rfl) (by kernel_rfl)
                      case s37 => intro _ wv hw; exact at_skip hw rfl (by kernel_rfl) (by kernel_rfl)
                      case s38 => intro _ wv hw; exact at_skip hw rfl (by kernel_rfl) (by kernel_rfl)
                      case s39 => intro _ wv hw; exact at_skip hw rfl (by kernel_rfl) (by kernel_rfl)
                      case s40 => intro _ wv hw; exact at_skip hw rfl (by kernel_rfl) (by kernel_rfl)
                      case s41 => intro _ wv hw; exact at_skip hw rfl (by kernel_rfl) (by kernel_rfl)
                      case s42 => intro _ wv hw; exact at_skip hw rfl (by kernel_rfl) (by kernel_rfl)
                      case s43 => intro _ wv hw; exact at_skip hw rfl (by kernel_rfl) (by kernel_rfl)
                      case s44 => intro _ wv hw; exact at_skip hw rfl (by kernel_rfl) (by kernel_rfl)
                      case s45 => intro _ wv hw; exact at_skip hw rfl (by kernel_rfl) (by kernel_rfl)
                      case s46 => intro _ wv hw; exact at_skip hw rfl (by kernel_rfl) (by kernel_rfl)
                      case s47 => intro _ wv hw; exact at_skip hw rfl (by kernel_rfl) (by kernel_rfl)
                      case s48 => intro _ wv hw; exact at_skip hw rfl (by kernel_rfl) (by kernel_rfl)
                      case s49 => intro _ wv hw; exact at_skip hw rfl (by kernel_rfl) (by kernel_rfl)
                      case s50 => intro _ wv hw; exact at_skip hw rfl (by kernel_rfl) (by kernel_rfl)
                      case s51 => intro _ wv hw; exact at_skip hw rfl (by kernel_rfl) (by kernel_rfl)
                      case s52 => intro _ wv hw; exact at_skip hw rfl (by kernel_rfl) (by kernel_rfl)
                      case s53 => intro _ wv hw; exact at_skip hw rfl (by kernel_rfl) (by kernel_rfl)
                      case s54 => intro _ wv hw; exact at_skip hw rfl (by kernel_rfl) (by kernel_rfl)
                      case s55 => intro _ wv hw; exact at_skip hw rfl (by kernel_rfl) (by kernel_rfl)
                      case s56 => intro _ wv hw; exact at_pure hw rfl (by kernel_rfl) (by kernel_rfl)
                      case s57 => intro _ wv hw; exact at_pure hw rfl (by kernel_rfl) (by kernel_rfl)
                      case s58 => intro h; exact absurd rfl h
                      intro W' hbw'
                      simp only [putL_cons, putL_nil, Act.put, List.setIfInBounds_toArray, List.set_cons_succ, List.set_cons_zero]
                      have q1 := Hhb.out.trans (hbw'.mono Hhb.out.size)
                      have q2 := range_below_ hrx hbw' hg0
                      have q3 := Hhss.out.below hbw'
                      have q4 := hbw'.size
                      have q5 := range_below_ Hhryy.out hbw' Hhgyz.out
                      have Hq1 := hide q1
                      have Hq2 := hide q2
                      have Hq3 := hide q3
                      have Hq4 := hide q4
                      have Hq5 := hide q5
                      have HhX := hide hX
                      have Hhc := hide hc
                      have Hhx := hide hx
                      have Hhrx := hide hrx
                      have Hhry := hide hry
                      have Hhrz := hide hrz
                      have Hhgw := hide hgw
                      have Hhg0 := hide hg0
                      have Hhbw' := hide hbw'
                      have HhY := hide hY
                      have Hhy := hide hy
                      have HhZ := hide hZ
                      have Hhz := hide hz
                      have Hhfz := hide hfz
                      have Hhfy := hide hfy
                      have Hhle := hide hle
                      have Hhzid := hide hzid
                      have Hhfits := hide hfits
                      have Hhleq := hide hleq
                      clear q1 q2 q3 q4 q5 hX hc hx hrx hry hrz hgw hg0 hbw' hY hy hZ hz hfz hfy hle hzid hfits hleq
                      go_wp2_with fail
                      go_roundg (d.length - (j + 1))
                      case measure => omega
                      case rel => exact ⟨j + 1, false, hlj, rfl, by go_num, rfl, (fun h => by rcases Hhnj.out.1 h with h | h; exact Hhbj.out h; exact absurd h.2.2.1 (by rw [← Hhfz.out, ← Hhfy.out]; simpa using Hhleq.out)), Hq1.out, Hq2.out, by have := Hq4.out; have := Hhg0.out; omega, Hq3.out, Hq5.out, by have := Hq4.out; have := Hhgyz.out; omega⟩
                    | true =>
                      cases hlt2 : decide (fz < fy) with
                      | true =>
                        refine wp_cert_last [(68, .bool (false)), (69, .bool (false)), (70, .slice (some ⟨g, off, none⟩) d.length c), (71, .int .i64 (j)), (72, .pointer (some ⟨g, off + j * 21, none⟩)), (73, .pointer (some ⟨g, off + j * 21, none⟩)), (74, .int .i64 (z.id)), (75, .int .i64 (id)), (76, .bool (true)), (77, .bool (true)), (78, .agg X.toArray), (79, .slice (some ⟨g, off, none⟩) d.length c), (80, .int .i64 (j)), (81, .pointer (some ⟨g, off + j * 21, none⟩)), (82, .agg Z.toArray), (83, .int .i64 (close)), (84, .bool (true)), (85, .bool (true)), (86, .bool (true)), (87, .agg X.toArray), (88, .slice (some ⟨g, off, none⟩) d.length c), (89, .int .i64 (j)), (90, .pointer (some ⟨g, off + j * 21, none⟩)), (91, .agg Z.toArray), (92, .int .i64 (fz)), (93, .agg X.toArray), (94, .slice (some ⟨g, off, none⟩) d.length c), (95, .int .i64 (i)), (96, .pointer (some ⟨g, off + i * 21, none⟩)), (97, .agg Y.toArray), (98, .int .i64 (fy)), (99, .bool (true)), (100, .bool (true)), (101, .bool (true)), (102, .agg X.toArray), (103, .slice (some ⟨g, off, none⟩) d.length c), (104, .int .i64 (j)), (105, .pointer (some ⟨g, off + j * 21, none⟩)), (106, .agg Z.toArray), (107, .int .i64 (fz)), (108, .agg X.toArray), (109, .slice (some ⟨g, off, none⟩) d.length c), (110, .int .i64 (i)), (111, .pointer (some ⟨g, off + i * 21, none⟩)), (112, .agg Y.toArray), (113, .int .i64 (fy)), (114, .bool (true)), (115, .bool (true)), (116, undef), (117, undef), (118, undef), (119, undef), (120, undef), (121, undef), (122, undef), (123, .bool (true)), (124, .bool (true)), (125, .bool (true))] 59 58 13 (.bool (true)) (by rfl) (by kernel_rfl) (by kernel_rfl) (by kernel_rfl) (by kernel_rfl) (by kernel_rfl) ⟨?s0, ?s1, ?s2, ?s3, ?s4, ?s5, ?s6, ?s7, ?s8, ?s9, ?s10, ?s11, ?s12, ?s13, ?s14, ?s15, ?s16, ?s17, ?s18, ?s19, ?s20, ?s21, ?s22, ?s23, ?s24, ?s25, ?s26, ?s27, ?s28, ?s29, ?s30, ?s31, ?s32, ?s33, ?s34, ?s35, ?s36, ?s37, ?s38, ?s39, ?s40, ?s41, ?s42, ?s43, ?s44, ?s45, ?s46, ?s47, ?s48, ?s49, ?s50, ?s51, ?s52, ?s53, ?s54, ?s55, ?s56, ?s57, ?s58, trivial⟩ ⟨_, rfl, rfl, (by kernel_rfl), fun wv => (by kernel_rfl)⟩ ?_
                        case s0 => intro _ wv hw; exact at_pure hw rfl (by kernel_rfl) (by kernel_rfl)
                        case s1 => intro _ wv hw; exact at_pure hw rfl (by kernel_rfl) (by kernel_rfl)
                        case s2 => intro _ wv hw; exact at_pure hw rfl (by kernel_rfl) (by kernel_rfl)
                        case s3 => intro _ wv hw; exact at_pure hw rfl (by kernel_rfl) (by kernel_rfl)
                        case s4 => intro _ wv hw; exact at_sem (sv := Instr.indexAt 33 (.slice (some ⟨g, off, none⟩) d.length c) (.int .i64 j)) (v := .pointer (some ⟨g, off + j * 21, none⟩)) hw rfl (by kernel_rfl) (by kernel_rfl) (by kernel_rfl) (run_index wv g off _ c j hlj)
                        case s5 => intro _ wv hw; exact at_pure hw rfl (by kernel_rfl) (by kernel_rfl)
                        case s6 => intro _ wv hw; exact at_load (t := 3) (ad := ⟨g, off + j * 21, none⟩) (v := .int .i64 (z.id)) hw rfl (by kernel_rfl) (by kernel_rfl) (by kernel_rfl) (load_int (range_below_ hrz hw hgw 0 _ hZ.id))
                        case s7 => intro _ wv hw; exact at_pure hw rfl (by kernel_rfl) (by kernel_rfl)
                        case s8 => intro _ wv hw; exact at_run (u := .bool (z.id == id)) (v := .bool (true)) hw rfl (by kernel_rfl) (by kernel_rfl) (by kernel_rfl) (by rw [hzid])
                        case s9 => intro _ wv hw; exact at_pure hw rfl (by kernel_rfl) (by kernel_rfl)
                        case s10 => intro _ wv hw; exact at_load (t := 25) (ad := ⟨w.heap.size, 0, none⟩) (v := .agg X.toArray) hw rfl (by kernel_rfl) (by kernel_rfl) (by kernel_rfl) (run_load_row hX.len (range_below_ hrx hw hg0))
                        case s11 => intro _ wv hw; exact at_pure hw rfl (by kernel_rfl) (by kernel_rfl)
                        case s12 => intro _ wv hw; exact at_pure hw rfl (by kernel_rfl) (by kernel_rfl)
                        case s13 => intro _ wv hw; exact at_sem (sv := Instr.indexAt 33 (.slice (some ⟨g, off, none⟩) d.length c) (.int .i64 j)) (v := .pointer (some ⟨g, off + j * 21, none⟩)) hw rfl (by kernel_rfl) (by kernel_rfl) (by kernel_rfl) (run_index wv g off _ c j hlj)
                        case s14 => intro _ wv hw; exact at_load (t := 25) (ad := ⟨g, off + j * 21, none⟩) (v := .agg Z.toArray) hw rfl (by kernel_rfl) (by kernel_rfl) (by kernel_rfl) (run_load_row hZ.len (range_below_ hrz hw hgw))
                        case s15 => intro _ wv hw; exact at_pure hw rfl (by kernel_rfl) (by kernel_rfl)
                        case s16 => intro _ wv hw; exact at_call_b (v := .bool (true)) hw rfl (by kernel_rfl) (by kernel_rfl) (by kernel_rfl) (by have h := fits_any x z X Z close wv hX hZ hc hx hz; rw [hfits] at h; exact h)
                        case s17 => intro _ wv hw; exact at_pure hw rfl (by kernel_rfl) (by kernel_rfl)
                        case s18 => intro _ wv hw; exact at_pure hw rfl (by kernel_rfl) (by kernel_rfl)
                        case s19 => intro _ wv hw; exact at_load (t := 25) (ad := ⟨w.heap.size, 0, none⟩) (v := .agg X.toArray) hw rfl (by kernel_rfl) (by kernel_rfl) (by kernel_rfl) (run_load_row hX.len (range_below_ hrx hw hg0))
                        case s20 => intro _ wv hw; exact at_pure hw rfl (by kernel_rfl) (by kernel_rfl)
                        case s21 => intro _ wv hw; exact at_pure hw rfl (by kernel_rfl) (by kernel_rfl)
                        case s22 => intro _ wv hw; exact at_sem (sv := Instr.indexAt 33 (.slice (some ⟨g, off, none⟩) d.length c) (.int .i64 j)) (v := .pointer (some ⟨g, off + j * 21, none⟩)) hw rfl (by kernel_rfl) (by kernel_rfl) (by kernel_rfl) (run_index wv g off _ c j hlj)
                        case s23 => intro _ wv hw; exact at_load (t := 25) (ad := ⟨g, off + j * 21, none⟩) (v := .agg Z.toArray) hw rfl (by kernel_rfl) (by kernel_rfl) (by kernel_rfl) (run_load_row hZ.len (range_below_ hrz hw hgw))
                        case s24 => intro _ wv hw; exact at_call_b (v := .int .i64 (fz)) hw rfl (by kernel_rfl) (by kernel_rfl) (by kernel_rfl) (by have h := Far_any x z X Z wv hX hZ hx hz; rw [← hfz] at h; exact h)
                        case s25 => intro _ wv hw; exact at_load (t := 25) (ad := ⟨w.heap.size, 0, none⟩) (v := .agg X.toArray) hw rfl (by kernel_rfl) (by kernel_rfl) (by kernel_rfl) (run_load_row hX.len (range_below_ hrx hw hg0))
                        case s26 => intro _ wv hw; exact at_pure hw rfl (by kernel_rfl) (by kernel_rfl)
                        case s27 => intro _ wv hw; exact at_pure hw rfl (by kernel_rfl) (by kernel_rfl)
                        case s28 => intro _ wv hw; exact at_sem (sv := Instr.indexAt 33 (.slice (some ⟨g, off, none⟩) d.length c) (.int .i64 i)) (v := .pointer (some ⟨g, off + i * 21, none⟩)) hw rfl (by kernel_rfl) (by kernel_rfl) (by kernel_rfl) (run_index wv g off _ c i hlt)
                        case s29 => intro _ wv hw; exact at_load (t := 25) (ad := ⟨g, off + i * 21, none⟩) (v := .agg Y.toArray) hw rfl (by kernel_rfl) (by kernel_rfl) (by kernel_rfl) (run_load_row hY.len (range_below_ hry hw hgw))
                        case s30 => intro _ wv hw; exact at_call_b (v := .int .i64 (fy)) hw rfl (by kernel_rfl) (by kernel_rfl) (by kernel_rfl) (by have h := Far_any x y X Y wv hX hY hx hy; rw [← hfy] at h; exact h)
                        case s31 => intro _ wv hw; exact at_run (u := .bool (decide (fz ≤ fy))) (v := .bool (true)) hw rfl (by kernel_rfl) (by kernel_rfl) (by kernel_rfl) (by rw [hleq])
                        case s32 => intro _ wv hw; exact at_pure hw rfl (by kernel_rfl) (by kernel_rfl)
                        case s33 => intro _ wv hw; exact at_pure hw rfl (by kernel_rfl) (by kernel_rfl)
                        case s34 => intro _ wv hw; exact at_load (t := 25) (ad := ⟨w.heap.size, 0, none⟩) (v := .agg X.toArray) hw rfl (by kernel_rfl) (by kernel_rfl) (by kernel_rfl) (run_load_row hX.len (range_below_ hrx hw hg0))
                        case s35 => intro _ wv hw; exact at_pure hw rfl (by kernel_rfl) (by kernel_rfl)
                        case s36 => intro _ wv hw; exact at_pure hw rfl (by kernel_rfl) (by kernel_rfl)
                        case s37 => intro _ wv hw; exact at_sem (sv := Instr.indexAt 33 (.slice (some ⟨g, off, none⟩) d.length c) (.int .i64 j)) (v := .pointer (some ⟨g, off + j * 21, none⟩)) hw rfl (by kernel_rfl) (by kernel_rfl) (by kernel_rfl) (run_index wv g off _ c j hlj)
                        case s38 => intro _ wv hw; exact at_load (t := 25) (ad := ⟨g, off + j * 21, none⟩) (v := .agg Z.toArray) hw rfl (by kernel_rfl) (by kernel_rfl) (by kernel_rfl) (run_load_row hZ.len (range_below_ hrz hw hgw))
                        case s39 => intro _ wv hw; exact at_call_b (v := .int .i64 (fz)) hw rfl (by kernel_rfl) (by kernel_rfl) (by kernel_rfl) (by have h := Far_any x z X Z wv hX hZ hx hz; rw [← hfz] at h; exact h)
                        case s40 => intro _ wv hw; exact at_load (t := 25) (ad := ⟨w.heap.size, 0, none⟩) (v := .agg X.toArray) hw rfl (by kernel_rfl) (by kernel_rfl) (by kernel_rfl) (run_load_row hX.len (range_below_ hrx hw hg0))
                        case s41 => intro _ wv hw; exact at_pure hw rfl (by kernel_rfl) (by kernel_rfl)
                        case s42 => intro _ wv hw; exact at_pure hw rfl (by kernel_rfl) (by kernel_rfl)
                        case s43 => intro _ wv hw; exact at_sem (sv := Instr.indexAt 33 (.slice (some ⟨g, off, none⟩) d.length c) (.int .i64 i)) (v := .pointer (some ⟨g, off + i * 21, none⟩)) hw rfl (by kernel_rfl) (by kernel_rfl) (by kernel_rfl) (run_index wv g off _ c i hlt)
                        case s44 => intro _ wv hw; exact at_load (t := 25) (ad := ⟨g, off + i * 21, none⟩) (v := .agg Y.toArray) hw rfl (by kernel_rfl) (by kernel_rfl) (by kernel_rfl) (run_load_row hY.len (range_below_ hry hw hgw))
                        case s45 => intro _ wv hw; exact at_call_b (v := .int .i64 (fy)) hw rfl (by kernel_rfl) (by kernel_rfl) (by kernel_rfl) (by have h := Far_any x y X Y wv hX hY hx hy; rw [← hfy] at h; exact h)
                        case s46 => intro _ wv hw; exact at_run (u := .bool (decide (fz < fy))) (v := .bool (true)) hw rfl (by kernel_rfl) (by kernel_rfl) (by kernel_rfl) (by rw [hlt2])
                        case s47 => intro _ wv hw; exact at_pure hw rfl (by kernel_rfl) (by kernel_rfl)
                        case s48 => intro _ wv hw; exact at_skip hw rfl (by kernel_rfl) (by kernel_rfl)
                        case s49 => intro _ wv hw; exact at_skip hw rfl (by kernel_rfl) (by kernel_rfl)
                        case s50 => intro _ wv hw; exact at_skip hw rfl (by kernel_rfl) (by kernel_rfl)
                        case s51 => intro _ wv hw; exact at_skip hw rfl (by kernel_rfl) (by kernel_rfl)
                        case s52 => intro _ wv hw; exact at_skip hw rfl (by kernel_rfl) (by kernel_rfl)
                        case s53 => intro _ wv hw; exact at_skip hw rfl (by kernel_rfl) (by kernel_rfl)
                        case s54 => intro _ wv hw; exact at_skip hw rfl (by kernel_rfl) (by kernel_rfl)
                        case s55 => intro _ wv hw; exact at_pure hw rfl (by kernel_rfl) (by kernel_rfl)
                        case s56 => intro _ wv hw; exact at_pure hw rfl (by kernel_rfl) (by kernel_rfl)
                        case s57 => intro _ wv hw; exact at_pure hw rfl (by kernel_rfl) (by kernel_rfl)
                        case s58 => intro h; exact absurd rfl h
                        intro W' hbw'
                        simp only [putL_cons, putL_nil, Act.put, List.setIfInBounds_toArray, List.set_cons_succ, List.set_cons_zero]
                        have q1 := Hhb.out.trans (hbw'.mono Hhb.out.size)
                        have q2 := range_below_ hrx hbw' hg0
                        have q3 := Hhss.out.below hbw'
                        have q4 := hbw'.size
                        have q5 := range_below_ Hhryy.out hbw' Hhgyz.out
                        have Hq1 := hide q1
                        have Hq2 := hide q2
                        have Hq3 := hide q3
                        have Hq4 := hide q4
                        have Hq5 := hide q5
                        have HhX := hide hX
                        have Hhc := hide hc
                        have Hhx := hide hx
                        have Hhrx := hide hrx
                        have Hhry := hide hry
                        have Hhrz := hide hrz
                        have Hhgw := hide hgw
                        have Hhg0 := hide hg0
                        have Hhbw' := hide hbw'
                        have HhY := hide hY
                        have Hhy := hide hy
                        have HhZ := hide hZ
                        have Hhz := hide hz
                        have Hhfz := hide hfz
                        have Hhfy := hide hfy
                        have Hhle := hide hle
                        have Hhzid := hide hzid
                        have Hhfits := hide hfits
                        have Hhleq := hide hleq
                        have Hhlt2 := hide hlt2
                        clear q1 q2 q3 q4 q5 hX hc hx hrx hry hrz hgw hg0 hbw' hY hy hZ hz hfz hfy hle hzid hfits hleq hlt2
                        go_wp2_with fail
                        go_roundg (d.length - (j + 1))
                        case measure => omega
                        case rel => exact ⟨j + 1, true, hlj, rfl, by go_num, rfl, (fun _ => rfl), Hq1.out, Hq2.out, by have := Hq4.out; have := Hhg0.out; omega, Hq3.out, Hq5.out, by have := Hq4.out; have := Hhgyz.out; omega⟩
                      | false =>
                        refine wp_cert_last [(68, .bool (false)), (69, .bool (false)), (70, .slice (some ⟨g, off, none⟩) d.length c), (71, .int .i64 (j)), (72, .pointer (some ⟨g, off + j * 21, none⟩)), (73, .pointer (some ⟨g, off + j * 21, none⟩)), (74, .int .i64 (z.id)), (75, .int .i64 (id)), (76, .bool (true)), (77, .bool (true)), (78, .agg X.toArray), (79, .slice (some ⟨g, off, none⟩) d.length c), (80, .int .i64 (j)), (81, .pointer (some ⟨g, off + j * 21, none⟩)), (82, .agg Z.toArray), (83, .int .i64 (close)), (84, .bool (true)), (85, .bool (true)), (86, .bool (true)), (87, .agg X.toArray), (88, .slice (some ⟨g, off, none⟩) d.length c), (89, .int .i64 (j)), (90, .pointer (some ⟨g, off + j * 21, none⟩)), (91, .agg Z.toArray), (92, .int .i64 (fz)), (93, .agg X.toArray), (94, .slice (some ⟨g, off, none⟩) d.length c), (95, .int .i64 (i)), (96, .pointer (some ⟨g, off + i * 21, none⟩)), (97, .agg Y.toArray), (98, .int .i64 (fy)), (99, .bool (true)), (100, .bool (true)), (101, .bool (true)), (102, .agg X.toArray), (103, .slice (some ⟨g, off, none⟩) d.length c), (104, .int .i64 (j)), (105, .pointer (some ⟨g, off + j * 21, none⟩)), (106, .agg Z.toArray), (107, .int .i64 (fz)), (108, .agg X.toArray), (109, .slice (some ⟨g, off, none⟩) d.length c), (110, .int .i64 (i)), (111, .pointer (some ⟨g, off + i * 21, none⟩)), (112, .agg Y.toArray), (113, .int .i64 (fy)), (114, .bool (false)), (115, .bool (false)), (116, .int .i64 (id)), (117, .slice (some ⟨g, off, none⟩) d.length c), (118, .int .i64 (i)), (119, .pointer (some ⟨g, off + i * 21, none⟩)), (120, .pointer (some ⟨g, off + i * 21, none⟩)), (121, .int .i64 (y.id)), (122, .bool (le)), (123, .bool (le)), (124, .bool (le)), (125, .bool (le))] 59 58 13 (.bool (le)) (by rfl) (by kernel_rfl) (by kernel_rfl) (by kernel_rfl) (by kernel_rfl) (by kernel_rfl) ⟨?s0, ?s1, ?s2, ?s3, ?s4, ?s5, ?s6, ?s7, ?s8, ?s9, ?s10, ?s11, ?s12, ?s13, ?s14, ?s15, ?s16, ?s17, ?s18, ?s19, ?s20, ?s21, ?s22, ?s23, ?s24, ?s25, ?s26, ?s27, ?s28, ?s29, ?s30, ?s31, ?s32, ?s33, ?s34, ?s35, ?s36, ?s37, ?s38, ?s39, ?s40, ?s41, ?s42, ?s43, ?s44, ?s45, ?s46, ?s47, ?s48, ?s49, ?s50, ?s51, ?s52, ?s53, ?s54, ?s55, ?s56, ?s57, ?s58, trivial⟩ ⟨_, rfl, rfl, (by kernel_rfl), fun wv => (by kernel_rfl)⟩ ?_
                        case s0 => intro _ wv hw; exact at_pure hw rfl (by kernel_rfl) (by kernel_rfl)
                        case s1 => intro _ wv hw; exact at_pure hw rfl (by kernel_rfl) (by kernel_rfl)
                        case s2 => intro _ wv hw; exact at_pure hw rfl (by kernel_rfl) (by kernel_rfl)
                        case s3 => intro _ wv hw; exact at_pure hw rfl (by kernel_rfl) (by kernel_rfl)
                        case s4 => intro _ wv hw; exact at_sem (sv := Instr.indexAt 33 (.slice (some ⟨g, off, none⟩) d.length c) (.int .i64 j)) (v := .pointer (some ⟨g, off + j * 21, none⟩)) hw rfl (by kernel_rfl) (by kernel_rfl) (by kernel_rfl) (run_index wv g off _ c j hlj)
                        case s5 => intro _ wv hw; exact at_pure hw rfl (by kernel_rfl) (by kernel_rfl)
                        case s6 => intro _ wv hw; exact at_load (t := 3) (ad := ⟨g, off + j * 21, none⟩) (v := .int .i64 (z.id)) hw rfl (by kernel_rfl) (by kernel_rfl) (by kernel_rfl) (load_int (range_below_ hrz hw hgw 0 _ hZ.id))
                        case s7 => intro _ wv hw; exact at_pure hw rfl (by kernel_rfl) (by kernel_rfl)
                        case s8 => intro _ wv hw; exact at_run (u := .bool (z.id == id)) (v := .bool (true)) hw rfl (by kernel_rfl) (by kernel_rfl) (by kernel_rfl) (by rw [hzid])
                        case s9 => intro _ wv hw; exact at_pure hw rfl (by kernel_rfl) (by kernel_rfl)
                        case s10 => intro _ wv hw; exact at_load (t := 25) (ad := ⟨w.heap.size, 0, none⟩) (v := .agg X.toArray) hw rfl (by kernel_rfl) (by kernel_rfl) (by kernel_rfl) (run_load_row hX.len (range_below_ hrx hw hg0))
                        case s11 => intro _ wv hw; exact at_pure hw rfl (by kernel_rfl) (by kernel_rfl)
                        case s12 => intro _ wv hw; exact at_pure hw rfl (by kernel_rfl) (by kernel_rfl)
                        case s13 => intro _ wv hw; exact at_sem (sv := Instr.indexAt 33 (.slice (some ⟨g, off, none⟩) d.length c) (.int .i64 j)) (v := .pointer (some ⟨g, off + j * 21, none⟩)) hw rfl (by kernel_rfl) (by kernel_rfl) (by kernel_rfl) (run_index wv g off _ c j hlj)
                        case s14 => intro _ wv hw; exact at_load (t := 25) (ad := ⟨g, off + j * 21, none⟩) (v := .agg Z.toArray) hw rfl (by kernel_rfl) (by kernel_rfl) (by kernel_rfl) (run_load_row hZ.len (range_below_ hrz hw hgw))
                        case s15 => intro _ wv hw; exact at_pure hw rfl (by kernel_rfl) (by kernel_rfl)
                        case s16 => intro _ wv hw; exact at_call_b (v := .bool (true)) hw rfl (by kernel_rfl) (by kernel_rfl) (by kernel_rfl) (by have h := fits_any x z X Z close wv hX hZ hc hx hz; rw [hfits] at h; exact h)
                        case s17 => intro _ wv hw; exact at_pure hw rfl (by kernel_rfl) (by kernel_rfl)
                        case s18 => intro _ wv hw; exact at_pure hw rfl (by kernel_rfl) (by kernel_rfl)
                        case s19 => intro _ wv hw; exact at_load (t := 25) (ad := ⟨w.heap.size, 0, none⟩) (v := .agg X.toArray) hw rfl (by kernel_rfl) (by kernel_rfl) (by kernel_rfl) (run_load_row hX.len (range_below_ hrx hw hg0))
                        case s20 => intro _ wv hw; exact at_pure hw rfl (by kernel_rfl) (by kernel_rfl)
                        case s21 => intro _ wv hw; exact at_pure hw rfl (by kernel_rfl) (by kernel_rfl)
                        case s22 => intro _ wv hw; exact at_sem (sv := Instr.indexAt 33 (.slice (some ⟨g, off, none⟩) d.length c) (.int .i64 j)) (v := .pointer (some ⟨g, off + j * 21, none⟩)) hw rfl (by kernel_rfl) (by kernel_rfl) (by kernel_rfl) (run_index wv g off _ c j hlj)
                        case s23 => intro _ wv hw; exact at_load (t := 25) (ad := ⟨g, off + j * 21, none⟩) (v := .agg Z.toArray) hw rfl (by kernel_rfl) (by kernel_rfl) (by kernel_rfl) (run_load_row hZ.len (range_below_ hrz hw hgw))
                        case s24 => intro _ wv hw; exact at_call_b (v := .int .i64 (fz)) hw rfl (by kernel_rfl) (by kernel_rfl) (by kernel_rfl) (by have h := Far_any x z X Z wv hX hZ hx hz; rw [← hfz] at h; exact h)
                        case s25 => intro _ wv hw; exact at_load (t := 25) (ad := ⟨w.heap.size, 0, none⟩) (v := .agg X.toArray) hw rfl (by kernel_rfl) (by kernel_rfl) (by kernel_rfl) (run_load_row hX.len (range_below_ hrx hw hg0))
                        case s26 => intro _ wv hw; exact at_pure hw rfl (by kernel_rfl) (by kernel_rfl)
                        case s27 => intro _ wv hw; exact at_pure hw rfl (by kernel_rfl) (by kernel_rfl)
                        case s28 => intro _ wv hw; exact at_sem (sv := Instr.indexAt 33 (.slice (some ⟨g, off, none⟩) d.length c) (.int .i64 i)) (v := .pointer (some ⟨g, off + i * 21, none⟩)) hw rfl (by kernel_rfl) (by kernel_rfl) (by kernel_rfl) (run_index wv g off _ c i hlt)
                        case s29 => intro _ wv hw; exact at_load (t := 25) (ad := ⟨g, off + i * 21, none⟩) (v := .agg Y.toArray) hw rfl (by kernel_rfl) (by kernel_rfl) (by kernel_rfl) (run_load_row hY.len (range_below_ hry hw hgw))
                        case s30 => intro _ wv hw; exact at_call_b (v := .int .i64 (fy)) hw rfl (by kernel_rfl) (by kernel_rfl) (by kernel_rfl) (by have h := Far_any x y X Y wv hX hY hx hy; rw [← hfy] at h; exact h)
                        case s31 => intro _ wv hw; exact at_run (u := .bool (decide (fz ≤ fy))) (v := .bool (true)) hw rfl (by kernel_rfl) (by kernel_rfl) (by kernel_rfl) (by rw [hleq])
                        case s32 => intro _ wv hw; exact at_pure hw rfl (by kernel_rfl) (by kernel_rfl)
                        case s33 => intro _ wv hw; exact at_pure hw rfl (by kernel_rfl) (by kernel_rfl)
                        case s34 => intro _ wv hw; exact at_load (t := 25) (ad := ⟨w.heap.size, 0, none⟩) (v := .agg X.toArray) hw rfl (by kernel_rfl) (by kernel_rfl) (by kernel_rfl) (run_load_row hX.len (range_below_ hrx hw hg0))
                        case s35 => intro _ wv hw; exact at_pure hw rfl (by kernel_rfl) (by kernel_rfl)
                        case s36 => intro _ wv hw; exact at_pure hw rfl (by kernel_rfl) (by kernel_rfl)
                        case s37 => intro _ wv hw; exact at_sem (sv := Instr.indexAt 33 (.slice (some ⟨g, off, none⟩) d.length c) (.int .i64 j)) (v := .pointer (some ⟨g, off + j * 21, none⟩)) hw rfl (by kernel_rfl) (by kernel_rfl) (by kernel_rfl) (run_index wv g off _ c j hlj)
                        case s38 => intro _ wv hw; exact at_load (t := 25) (ad := ⟨g, off + j * 21, none⟩) (v := .agg Z.toArray) hw rfl (by kernel_rfl) (by kernel_rfl) (by kernel_rfl) (run_load_row hZ.len (range_below_ hrz hw hgw))
                        case s39 => intro _ wv hw; exact at_call_b (v := .int .i64 (fz)) hw rfl (by kernel_rfl) (by kernel_rfl) (by kernel_rfl) (by have h := Far_any x z X Z wv hX hZ hx hz; rw [← hfz] at h; exact h)
                        case s40 => intro _ wv hw; exact at_load (t := 25) (ad := ⟨w.heap.size, 0, none⟩) (v := .agg X.toArray) hw rfl (by kernel_rfl) (by kernel_rfl) (by kernel_rfl) (run_load_row hX.len (range_below_ hrx hw hg0))
                        case s41 => intro _ wv hw; exact at_pure hw rfl (by kernel_rfl) (by kernel_rfl)
                        case s42 => intro _ wv hw; exact at_pure hw rfl (by kernel_rfl) (by kernel_rfl)
                        case s43 => intro _ wv hw; exact at_sem (sv := Instr.indexAt 33 (.slice (some ⟨g, off, none⟩) d.length c) (.int .i64 i)) (v := .pointer (some ⟨g, off + i * 21, none⟩)) hw rfl (by kernel_rfl) (by kernel_rfl) (by kernel_rfl) (run_index wv g off _ c i hlt)
                        case s44 => intro _ wv hw; exact at_load (t := 25) (ad := ⟨g, off + i * 21, none⟩) (v := .agg Y.toArray) hw rfl (by kernel_rfl) (by kernel_rfl) (by kernel_rfl) (run_load_row hY.len (range_below_ hry hw hgw))
                        case s45 => intro _ wv hw; exact at_call_b (v := .int .i64 (fy)) hw rfl (by kernel_rfl) (by kernel_rfl) (by kernel_rfl) (by have h := Far_any x y X Y wv hX hY hx hy; rw [← hfy] at h; exact h)
                        case s46 => intro _ wv hw; exact at_run (u := .bool (decide (fz < fy))) (v := .bool (false)) hw rfl (by kernel_rfl) (by kernel_rfl) (by kernel_rfl) (by rw [hlt2])
                        case s47 => intro _ wv hw; exact at_pure hw rfl (by kernel_rfl) (by kernel_rfl)
                        case s48 => intro _ wv hw; exact at_pure hw rfl (by kernel_rfl) (by kernel_rfl)
                        case s49 => intro _ wv hw; exact at_pure hw rfl (by kernel_rfl) (by kernel_rfl)
                        case s50 => intro _ wv hw; exact at_pure hw rfl (by kernel_rfl) (by kernel_rfl)
                        case s51 => intro _ wv hw; exact at_sem (sv := Instr.indexAt 33 (.slice (some ⟨g, off, none⟩) d.length c) (.int .i64 i)) (v := .pointer (some ⟨g, off + i * 21, none⟩)) hw rfl (by kernel_rfl) (by kernel_rfl) (by kernel_rfl) (run_index wv g off _ c i hlt)
                        case s52 => intro _ wv hw; exact at_pure hw rfl (by kernel_rfl) (by kernel_rfl)
                        case s53 => intro _ wv hw; exact at_load (t := 3) (ad := ⟨g, off + i * 21, none⟩) (v := .int .i64 (y.id)) hw rfl (by kernel_rfl) (by kernel_rfl) (by kernel_rfl) (load_int (range_below_ hry hw hgw 0 _ hY.id))
                        case s54 => intro _ wv hw; exact at_run (u := .bool (decide (id ≤ y.id))) (v := .bool (le)) hw rfl (by kernel_rfl) (by kernel_rfl) (by kernel_rfl) (by rw [hle])
                        case s55 => intro _ wv hw; exact at_pure hw rfl (by kernel_rfl) (by kernel_rfl)
                        case s56 => intro _ wv hw; exact at_pure hw rfl (by kernel_rfl) (by kernel_rfl)
                        case s57 => intro _ wv hw; exact at_pure hw rfl (by kernel_rfl) (by kernel_rfl)
                        case s58 => intro h; exact absurd rfl h
                        intro W' hbw'
                        simp only [putL_cons, putL_nil, Act.put, List.setIfInBounds_toArray, List.set_cons_succ, List.set_cons_zero]
                        have q1 := Hhb.out.trans (hbw'.mono Hhb.out.size)
                        have q2 := range_below_ hrx hbw' hg0
                        have q3 := Hhss.out.below hbw'
                        have q4 := hbw'.size
                        have q5 := range_below_ Hhryy.out hbw' Hhgyz.out
                        have Hq1 := hide q1
                        have Hq2 := hide q2
                        have Hq3 := hide q3
                        have Hq4 := hide q4
                        have Hq5 := hide q5
                        have HhX := hide hX
                        have Hhc := hide hc
                        have Hhx := hide hx
                        have Hhrx := hide hrx
                        have Hhry := hide hry
                        have Hhrz := hide hrz
                        have Hhgw := hide hgw
                        have Hhg0 := hide hg0
                        have Hhbw' := hide hbw'
                        have HhY := hide hY
                        have Hhy := hide hy
                        have HhZ := hide hZ
                        have Hhz := hide hz
                        have Hhfz := hide hfz
                        have Hhfy := hide hfy
                        have Hhle := hide hle
                        have Hhzid := hide hzid
                        have Hhfits := hide hfits
                        have Hhleq := hide hleq
                        have Hhlt2 := hide hlt2
                        clear q1 q2 q3 q4 q5 hX hc hx hrx hry hrz hgw hg0 hbw' hY hy hZ hz hfz hfy hle hzid hfits hleq hlt2
                        go_wp2_with fail
                        go_roundg (d.length - (j + 1))
                        case measure => omega
                        case rel => exact ⟨j + 1, le, hlj, rfl, by go_num, rfl, (fun h => by rcases Hhnj.out.1 h with h | h; exact absurd (Hhbj.out h) (by simp); rcases h.2.2.2 with k | k; exact absurd k (by rw [← Hhfz.out, ← Hhfy.out]; simpa using Hhlt2.out); rw [Hhle.out]; simpa using k), Hq1.out, Hq2.out, by have := Hq4.out; have := Hhg0.out; omega, Hq3.out, Hq5.out, by have := Hq4.out; have := Hhgyz.out; omega⟩
            · have d3 : decide ((j : Int) < (d.length : Int)) = false := by rw [decide_eq_false_iff_not]; omega
              have hje : j = d.length := by omega
              have hbt : b2 = true := hbj (by rw [hje, List.take_length]; exact ⟨m, Hhmd.out, Hhgm.out⟩)
              subst hbt
              have hcy : wr.cell? ⟨gy, 0, none⟩ = some (.int .i64 id) := by have := hryy 0 (.int .i64 yy.id) rfl; rw [Hhyyi.out] at this; exact this
              clear hje
              have Hhbj := hide hbj
              have Hhb := hide hb
              have Hhrx := hide hrx
              have Hhg0 := hide hg0
              have Hhss := hide hss
              have Hhryy := hide hryy
              have Hhgyz := hide hgyz
              clear hbj hb hrx hg0 hss hryy hgyz
              go_wp2_with fail
              go_roundg (d.length - (i + 1))
              case measure => omega
              case rel => exact ⟨i + 1, true, hlt, rfl, by go_num, rfl, by rw [Hhnx.out, Hhcf.out]; simp, Hhb.out, Hhrx.out, Hhg0.out, Hhss.out⟩
    · have d2 : decide ((i : Int) < (d.length : Int)) = false := by rw [decide_eq_false_iff_not]; omega
      have hie : i = d.length := by omega
      have hbo : b = ok := by
        rw [hie, List.take_length] at hbi
        exact Bool.eq_iff_iff.2 (hbi.trans Hhsp1.out.symm)
      subst hbo
      clear hie
      have Hhbi := hide hbi
      have Hhb := hide hb
      have Hhrx := hide hrx
      have Hhg0s := hide hg0s
      have Hhss := hide hss
      clear hbi hb hrx hg0s hss
      go_wp2_with fail
      refine (alive15 _).mono ?_
      rintro r w5 ⟨rfl, hb5⟩
      have hbe := Hhb.out.trans (hb5.mono Hhb.out.size)
      have hbeq : (b == b) = true := by cases b <;> rfl
      have Hhbe := hide hbe
      clear hbe
      go_wp2_with fail
      exact ⟨rfl, .bool true, by kernel_rfl, rfl, Hhbe.out⟩
end Go.Proofs.Ytjanmnjmnnnfmaa
