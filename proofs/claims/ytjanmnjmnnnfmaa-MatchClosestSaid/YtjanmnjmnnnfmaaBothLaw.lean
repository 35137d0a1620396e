/- complinelaw15.MatchBoth. -/
import Derived.Test.YtjanmnjmnnnfmaaAlive15
import Derived.Test.YtjanmnjmnnnfmaaCertT
namespace Go.Proofs.Ytjanmnjmnnnfmaa
open Go.RowKit RC

/-- A row of names of its own. -/
def Names (D : List ByteArray) (v : Value) (w : World) : Prop := ∃ B, w.ownsRow B 9 1 v D.length (strs D)
theorem Names.below {D : List ByteArray} {v : Value} {w w' : World} (h : Names D v w) (hb : Below w.heap.size w w') : Names D v w' := by
  obtain ⟨B, h⟩ := h
  exact ⟨B, own_only (S := fun _ => False) h ⟨hb.os, hb.tape, hb.output, hb.size, fun q hq _ => hb.block q hq⟩ (fun _ _ h => h)⟩
theorem at_call_n2 {P : Program} {ops : Array Oper} {W : World} {R1 R2 : Value → World → Prop} {θ : Value × Value} {b1 b2 : Bool} {F : Act} {i : Nat} {o : Oper} {w : World} {f : FuncId} {args : Array Value} {v : Value}
    (m1 : ∀ v w w', R1 v w → Below w.heap.size w w' → R1 v w') (m2 : ∀ v w w', R2 v w → Below w.heap.size w w' → R2 v w') (hw : N2 W R1 R2 θ b1 b2 w) (ho : ops[i]? = some o) (hg : Region.wanted o (yielded ops F.tmps) = true) (hv : slotV F o.dst = v)
    (h : (execOp F.eval o).run P w = .ok (.enter f args) w) (hc : Calls P f args w fun r w' => r = .returned v ∧ Below w.heap.size w w') : stepAt P ops F i (N2 W R1 R2 θ b1 b2) w :=
  at_call ho hg hv h (hc.mono fun _ _ ⟨h1, h2⟩ => ⟨h1, hw.below m1 m2 h2⟩)
theorem same_call (x y : Ins) (close : Int) {v1 v2 : Value} {w : World} (h1 : Names (differP x y close) v1 w) (h2 : Names (differP x y close) v2 w) :
    Calls Try.prog 14 #[v1, v2] w fun r w' => r = .returned (.bool true) ∧ Below w.heap.size w w' := by
  obtain ⟨B1, h1⟩ := h1
  obtain ⟨B2, h2⟩ := h2
  obtain ⟨A1, c1, rfl⟩ := own_slice h1
  obtain ⟨A2, c2, rfl⟩ := own_slice h2
  refine (same_texts A1 A2 _ c1 c2 _ w (own_reads h1) (own_reads h2) ?_).mono fun _ _ ⟨hr, q, hq⟩ => ⟨hr, by rw [hq]; exact below_drewN (Below.refl _ w) q⟩
  have : (differP x y close).length ≤ 10 := Nat.le_trans (namesOf_len _) (Nat.le_refl _)
  omega
theorem differ_call (x y : Ins) (X Y : List Value) (close : Int) (w : World) (hX : RowIs x X) (hY : RowIs y Y) (hc : bd close) (hx : bd x.am) (hy : bd y.am) :
    Calls Try.prog 15 #[.agg X.toArray, .agg Y.toArray, .int .i64 close] w fun r w' => ∃ v, r = .returned v ∧ Names (differP x y close) v w' ∧ Below w.heap.size w w' :=
  (differ_any x y X Y close w hX hY hc hx hy).mono fun _ _ ⟨⟨v, hr, hv⟩, hb⟩ => ⟨v, hr, ⟨_, hv⟩, hb⟩
theorem differ_call' (x y : Ins) (X Y : List Value) (close : Int) (w : World) (hX : RowIs x X) (hY : RowIs y Y) (hc : bd close) (hx : bd x.am) (hy : bd y.am) :
    Calls Try.prog 15 #[.agg Y.toArray, .agg X.toArray, .int .i64 close] w fun r w' => ∃ v, r = .returned v ∧ Names (differP x y close) v w' ∧ Below w.heap.size w w' := by
  rw [differ_comm]
  exact differ_call y x Y X close w hY hX hc hy hx

set_option maxHeartbeats 1600000 in
set_option maxRecDepth 100000 in
theorem both_law (x y : Ins) (X Y : List Value) (close more : Int) (w : World) (hX : RowIs x X) (hY : RowIs y Y) (hc : bd close) (hm : bd more) (hx : bd x.am) (hy : bd y.am) :
    Calls Try.prog 3 #[.agg X.toArray, .agg Y.toArray, .int .i64 close, .int .i64 more] w fun r w' => r = .returned (.bool true) ∧ Below w.heap.size w w' := by
  have h2 := two_ranges w X Y
  have hb := below_two w (.cells X.toArray 25) (.cells Y.toArray 25)
  have hs : ((w.alloc (.cells X.toArray 25)).alloc (.cells Y.toArray 25)).heap.size = w.heap.size + 2 := by simp
  have Hhb := hide hb
  have Hh2 := hide h2
  have Hhs := hide hs
  clear hb h2 hs
  go_enter Try.func3, Try.ntmps3
  by_cases k1 : more < 0
  · have d1 : decide (more < 0) = true := by rw [decide_eq_true_iff]; omega
    go_wp2_with fail
    refine (alive15 _).mono ?_
    rintro r w2 ⟨rfl, hb2⟩
    go_wp2_with fail
    exact ⟨rfl, .bool true, by kernel_rfl, rfl, Hhb.out.trans (hb2.mono Hhb.out.size)⟩
  have d1 : decide (more < 0) = false := by rw [decide_eq_false_iff_not]; omega
  by_cases k2 : 1099511627776 < more
  · have d2 : decide (1099511627776 < more) = true := by rw [decide_eq_true_iff]; omega
    go_wp2_with fail
    refine (alive15 _).mono ?_
    rintro r w2 ⟨rfl, hb2⟩
    go_wp2_with fail
    exact ⟨rfl, .bool true, by kernel_rfl, rfl, Hhb.out.trans (hb2.mono Hhb.out.size)⟩
  have d2 : decide (1099511627776 < more) = false := by rw [decide_eq_false_iff_not]; omega
  by_cases k3 : 1099511627776 < close
  · have d3 : decide (1099511627776 < close) = true := by rw [decide_eq_true_iff]; omega
    go_wp2_with fail
    refine (alive15 _).mono ?_
    rintro r w2 ⟨rfl, hb2⟩
    go_wp2_with fail
    exact ⟨rfl, .bool true, by kernel_rfl, rfl, Hhb.out.trans (hb2.mono Hhb.out.size)⟩
  have d3 : decide (1099511627776 < close) = false := by rw [decide_eq_false_iff_not]; omega
  by_cases k4 : close < -1099511627776
  · have d4 : decide (close < -1099511627776) = true := by rw [decide_eq_true_iff]; omega
    go_wp2_with fail
    refine (alive15 _).mono ?_
    rintro r w2 ⟨rfl, hb2⟩
    go_wp2_with fail
    exact ⟨rfl, .bool true, by kernel_rfl, rfl, Hhb.out.trans (hb2.mono Hhb.out.size)⟩
  have d4 : decide (close < -1099511627776) = false := by rw [decide_eq_false_iff_not]; omega
  go_wp2_with fail
  generalize (w.alloc (.cells X.toArray 25)).alloc (.cells Y.toArray 25) = W1 at Hhb Hh2 Hhs ⊢
  obtain ⟨hr0, hr1⟩ := Hh2.out
  have hs1 := Hhs.out
  have hbw := Hhb.out
  have h0 : 0 ≤ more := by omega
  have hcm : bd (close + more) := by unfold bd; omega
  have hwr : IntKind.i64.wrap (close + more) = close + more := by rw [IntKind.wrap_i64]; omega
  generalize hg0 : w.heap.size = g0 at hr0 hr1 hs1 hbw ⊢
  obtain ⟨g1, hg1⟩ : ∃ g1, g1 = g0 + 1 := ⟨_, rfl⟩
  rw [← hg1] at hr1 ⊢
  obtain ⟨a, ha⟩ : ∃ a, fitsP x y close = a := ⟨_, rfl⟩
  obtain ⟨fi, hfi⟩ : ∃ fi, fi = farI x y := ⟨_, rfl⟩
  have hf0 : decide (0 ≤ fi) = true := by rw [decide_eq_true_iff, hfi]; exact farI_nonneg x y
  refine wp_cert_b [(26, .agg X.toArray), (27, .agg Y.toArray), (28, .int .i64 (close)), (29, .bool (a)), (30, .agg Y.toArray), (31, .agg X.toArray), (32, .int .i64 (close)), (33, .bool (a)), (9, .bool (a)), (10, .bool (a))] 10 (by rfl) (by kernel_rfl) (by kernel_rfl) (by kernel_rfl) (by kernel_rfl) ⟨?s0, ?s1, ?s2, ?s3, ?s4, ?s5, ?s6, ?s7, ?s8, ?s9, trivial⟩ ?_
  case s0 => intro w hw; exact at_load (t := 25) (ad := ⟨g0, 0, none⟩) (v := .agg X.toArray) hw rfl (by kernel_rfl) (by kernel_rfl) (by kernel_rfl) (run_load_row hX.len (range_below_ hr0 hw (by omega)))
  case s1 => intro w hw; exact at_load (t := 25) (ad := ⟨g1, 0, none⟩) (v := .agg Y.toArray) hw rfl (by kernel_rfl) (by kernel_rfl) (by kernel_rfl) (run_load_row hY.len (range_below_ hr1 hw (by omega)))
  case s2 => intro w hw; exact at_pure hw rfl (by kernel_rfl) (by kernel_rfl)
  case s3 => intro w hw; exact at_call_b (v := .bool (a)) hw rfl (by kernel_rfl) (by kernel_rfl) (by kernel_rfl) (by have h := fits_any x y X Y (close) w hX hY hc hx hy; rw [ha] at h; exact h)
  case s4 => intro w hw; exact at_load (t := 25) (ad := ⟨g1, 0, none⟩) (v := .agg Y.toArray) hw rfl (by kernel_rfl) (by kernel_rfl) (by kernel_rfl) (run_load_row hY.len (range_below_ hr1 hw (by omega)))
  case s5 => intro w hw; exact at_load (t := 25) (ad := ⟨g0, 0, none⟩) (v := .agg X.toArray) hw rfl (by kernel_rfl) (by kernel_rfl) (by kernel_rfl) (run_load_row hX.len (range_below_ hr0 hw (by omega)))
  case s6 => intro w hw; exact at_pure hw rfl (by kernel_rfl) (by kernel_rfl)
  case s7 => intro w hw; exact at_call_b (v := .bool (a)) hw rfl (by kernel_rfl) (by kernel_rfl) (by kernel_rfl) (by have h := fits_any y x Y X (close) w hY hX hc hy hx; rw [fits_comm y x, ha] at h; exact h)
  case s8 => intro w hw; exact at_pure hw rfl (by kernel_rfl) (by kernel_rfl)
  case s9 => intro w hw; exact at_pure hw rfl (by kernel_rfl) (by kernel_rfl)
  intro W2 hb2
  simp only [putL_cons, putL_nil, Act.put, List.setIfInBounds_toArray, List.set_cons_succ, List.set_cons_zero]
  have hr0 := range_below_ hr0 hb2 (by omega)
  have hr1 := range_below_ hr1 hb2 (by omega)
  have hbw := hbw.trans (hb2.mono (by omega))
  have hs2 : g0 + 2 ≤ W2.heap.size := by have := hb2.size; omega
  clear hb2 Hhb Hh2 Hhs
  have HhX := hide hX
  have HhY := hide hY
  have Hhx := hide hx
  have Hhy := hide hy
  have Hhc := hide hc
  have Hhcm := hide hcm
  have Hhwr := hide hwr
  have Hh0 := hide h0
  have Hha := hide ha
  have Hhfi := hide hfi
  have Hhf0 := hide hf0
  have Hhr0 := hide hr0
  have Hhr1 := hide hr1
  have Hhbw := hide hbw
  have Hhs2 := hide hs2
  have Hhs1 := hide hs1
  have Hhg0 := hide hg0
  have Hhg1 := hide hg1
  have Hhm := hide hm
  clear hX hY hx hy hc hcm hwr h0 ha hfi hf0 hr0 hr1 hbw hs2 hs1 hg0 hg1 hm
  go_wp2_with fail
  cases a
  case false =>
    have hX := HhX.out; have hY := HhY.out; have hx := Hhx.out; have hy := Hhy.out; have hc := Hhc.out; have hcm := Hhcm.out; have hwr := Hhwr.out; have h0 := Hh0.out; have ha := Hha.out; have hfi := Hhfi.out; have hf0 := Hhf0.out; have hr0 := Hhr0.out; have hr1 := Hhr1.out; have hbw := Hhbw.out; have hs2 := Hhs2.out; have hs1 := Hhs1.out; have hg0 := Hhg0.out; have hg1 := Hhg1.out
    refine wp_cert_b2 (R1 := (fun v w => Names (differP x y close) v w)) (R2 := (fun v w => Names (differP x y close) v w)) [(34, .bool (true)), (35, .bool (true)), (36, .bool (false)), (37, .bool (false)), (38, .bool (true)), (39, .bool (true)), (40, .bool (true)), (41, .bool (false)), (42, .bool (true)), (43, .bool (true)), (44, undef), (45, undef), (46, undef), (47, undef), (48, undef), (49, undef), (50, .bool (true)), (51, .bool (true)), (52, .bool (true)), (53, .agg X.toArray), (54, .agg X.toArray), (55, .int .i64 (close)), (56, .bool (false)), (57, .bool (true)), (58, .bool (true)), (59, .bool (true)), (60, .agg X.toArray), (61, .agg Y.toArray), (62, .int .i64 (fi)), (63, .agg Y.toArray), (64, .agg X.toArray), (65, .int .i64 (fi)), (66, .bool (true)), (67, .bool (true)), (68, .bool (true)), (69, .agg X.toArray), (70, .agg Y.toArray), (71, .int .i64 (fi)), (72, .bool (true)), (73, .bool (true)), (74, .bool (true)), (75, .agg X.toArray), (76, .agg Y.toArray), (77, .int .i64 (close)), (79, .agg Y.toArray), (80, .agg X.toArray), (81, .int .i64 (close)), (83, .bool (true)), (84, .bool (true)), (8, .bool (true))] 44 48 78 82 52 (by rfl) (by kernel_rfl) (by kernel_rfl) (by omega) (by omega) (by omega) (by omega) (by show (78 : Nat) < 85; omega) (by show (82 : Nat) < 85; omega) (by kernel_rfl) (by kernel_rfl) (by kernel_rfl) (by kernel_rfl) (fun _ _ _ => Names.below) (fun _ _ _ => Names.below) ⟨?s0, ?s1, ?s2, ?s3, ?s4, ?s5, ?s6, ?s7, ?s8, ?s9, ?s10, ?s11, ?s12, ?s13, ?s14, ?s15, ?s16, ?s17, ?s18, ?s19, ?s20, ?s21, ?s22, ?s23, ?s24, ?s25, ?s26, ?s27, ?s28, ?s29, ?s30, ?s31, ?s32, ?s33, ?s34, ?s35, ?s36, ?s37, ?s38, ?s39, ?s40, ?s41, ?s42, ?s43, ?s44, ?s45, ?s46, ?s47, ?s48, ?s49, ?s50, ?s51, trivial⟩ ?hp ?hq ?_
    case s0 => intro _ _ θ b1 b2 w e1 e2 hw; exact at_call_n2 (fun _ _ _ => Names.below) (fun _ _ _ => Names.below) (v := .bool (true)) hw rfl (by kernel_rfl) (by kernel_rfl) (by kernel_rfl) (alive15 _)
    case s1 => intro _ _ θ b1 b2 w e1 e2 hw; exact at_pure hw rfl (by kernel_rfl) (by kernel_rfl)
    case s2 => intro _ _ θ b1 b2 w e1 e2 hw; exact at_pure hw rfl (by kernel_rfl) (by kernel_rfl)
    case s3 => intro _ _ θ b1 b2 w e1 e2 hw; exact at_pure hw rfl (by kernel_rfl) (by kernel_rfl)
    case s4 => intro _ _ θ b1 b2 w e1 e2 hw; exact at_pure hw rfl (by kernel_rfl) (by kernel_rfl)
    case s5 => intro _ _ θ b1 b2 w e1 e2 hw; exact at_pure hw rfl (by kernel_rfl) (by kernel_rfl)
    case s6 => intro _ _ θ b1 b2 w e1 e2 hw; exact at_pure hw rfl (by kernel_rfl) (by kernel_rfl)
    case s7 => intro _ _ θ b1 b2 w e1 e2 hw; exact at_pure hw rfl (by kernel_rfl) (by kernel_rfl)
    case s8 => intro _ _ θ b1 b2 w e1 e2 hw; exact at_pure hw rfl (by kernel_rfl) (by kernel_rfl)
    case s9 => intro _ _ θ b1 b2 w e1 e2 hw; exact at_pure hw rfl (by kernel_rfl) (by kernel_rfl)
    case s10 => intro _ _ θ b1 b2 w e1 e2 hw; exact at_skip hw rfl (by kernel_rfl) (by kernel_rfl)
    case s11 => intro _ _ θ b1 b2 w e1 e2 hw; exact at_skip hw rfl (by kernel_rfl) (by kernel_rfl)
    case s12 => intro _ _ θ b1 b2 w e1 e2 hw; exact at_skip hw rfl (by kernel_rfl) (by kernel_rfl)
    case s13 => intro _ _ θ b1 b2 w e1 e2 hw; exact at_skip hw rfl (by kernel_rfl) (by kernel_rfl)
    case s14 => intro _ _ θ b1 b2 w e1 e2 hw; exact at_skip hw rfl (by kernel_rfl) (by kernel_rfl)
    case s15 => intro _ _ θ b1 b2 w e1 e2 hw; exact at_skip hw rfl (by kernel_rfl) (by kernel_rfl)
    case s16 => intro _ _ θ b1 b2 w e1 e2 hw; exact at_pure hw rfl (by kernel_rfl) (by kernel_rfl)
    case s17 => intro _ _ θ b1 b2 w e1 e2 hw; exact at_pure hw rfl (by kernel_rfl) (by kernel_rfl)
    case s18 => intro _ _ θ b1 b2 w e1 e2 hw; exact at_pure hw rfl (by kernel_rfl) (by kernel_rfl)
    case s19 => intro _ _ θ b1 b2 w e1 e2 hw; exact at_load (t := 25) (ad := ⟨g0, 0, none⟩) (v := .agg X.toArray) hw rfl (by kernel_rfl) (by kernel_rfl) (by kernel_rfl) (run_load_row hX.len (range_below_ hr0 hw.bl (by omega)))
    case s20 => intro _ _ θ b1 b2 w e1 e2 hw; exact at_load (t := 25) (ad := ⟨g0, 0, none⟩) (v := .agg X.toArray) hw rfl (by kernel_rfl) (by kernel_rfl) (by kernel_rfl) (run_load_row hX.len (range_below_ hr0 hw.bl (by omega)))
    case s21 => intro _ _ θ b1 b2 w e1 e2 hw; exact at_pure hw rfl (by kernel_rfl) (by kernel_rfl)
    case s22 => intro _ _ θ b1 b2 w e1 e2 hw; exact at_call_n2 (fun _ _ _ => Names.below) (fun _ _ _ => Names.below) (v := .bool (false)) hw rfl (by kernel_rfl) (by kernel_rfl) (by kernel_rfl) (by have h := fits_any x x X X (close) w hX hX hc hx hx; rw [fits_self] at h; exact h)
    case s23 => intro _ _ θ b1 b2 w e1 e2 hw; exact at_pure hw rfl (by kernel_rfl) (by kernel_rfl)
    case s24 => intro _ _ θ b1 b2 w e1 e2 hw; exact at_pure hw rfl (by kernel_rfl) (by kernel_rfl)
    case s25 => intro _ _ θ b1 b2 w e1 e2 hw; exact at_pure hw rfl (by kernel_rfl) (by kernel_rfl)
    case s26 => intro _ _ θ b1 b2 w e1 e2 hw; exact at_load (t := 25) (ad := ⟨g0, 0, none⟩) (v := .agg X.toArray) hw rfl (by kernel_rfl) (by kernel_rfl) (by kernel_rfl) (run_load_row hX.len (range_below_ hr0 hw.bl (by omega)))
    case s27 => intro _ _ θ b1 b2 w e1 e2 hw; exact at_load (t := 25) (ad := ⟨g1, 0, none⟩) (v := .agg Y.toArray) hw rfl (by kernel_rfl) (by kernel_rfl) (by kernel_rfl) (run_load_row hY.len (range_below_ hr1 hw.bl (by omega)))
    case s28 => intro _ _ θ b1 b2 w e1 e2 hw; exact at_call_n2 (fun _ _ _ => Names.below) (fun _ _ _ => Names.below) (v := .int .i64 (fi)) hw rfl (by kernel_rfl) (by kernel_rfl) (by kernel_rfl) (by have h := Far_any x y X Y w hX hY hx hy; rw [← hfi] at h; exact h)
    case s29 => intro _ _ θ b1 b2 w e1 e2 hw; exact at_load (t := 25) (ad := ⟨g1, 0, none⟩) (v := .agg Y.toArray) hw rfl (by kernel_rfl) (by kernel_rfl) (by kernel_rfl) (run_load_row hY.len (range_below_ hr1 hw.bl (by omega)))
    case s30 => intro _ _ θ b1 b2 w e1 e2 hw; exact at_load (t := 25) (ad := ⟨g0, 0, none⟩) (v := .agg X.toArray) hw rfl (by kernel_rfl) (by kernel_rfl) (by kernel_rfl) (run_load_row hX.len (range_below_ hr0 hw.bl (by omega)))
    case s31 => intro _ _ θ b1 b2 w e1 e2 hw; exact at_call_n2 (fun _ _ _ => Names.below) (fun _ _ _ => Names.below) (v := .int .i64 (fi)) hw rfl (by kernel_rfl) (by kernel_rfl) (by kernel_rfl) (by have h := Far_any y x Y X w hY hX hy hx; rw [farI_comm y x, ← hfi] at h; exact h)
    case s32 => intro _ _ θ b1 b2 w e1 e2 hw; exact at_run (u := .bool (fi == fi)) (v := .bool (true)) hw rfl (by kernel_rfl) (by kernel_rfl) (by kernel_rfl) (by simp)
    case s33 => intro _ _ θ b1 b2 w e1 e2 hw; exact at_pure hw rfl (by kernel_rfl) (by kernel_rfl)
    case s34 => intro _ _ θ b1 b2 w e1 e2 hw; exact at_pure hw rfl (by kernel_rfl) (by kernel_rfl)
    case s35 => intro _ _ θ b1 b2 w e1 e2 hw; exact at_load (t := 25) (ad := ⟨g0, 0, none⟩) (v := .agg X.toArray) hw rfl (by kernel_rfl) (by kernel_rfl) (by kernel_rfl) (run_load_row hX.len (range_below_ hr0 hw.bl (by omega)))
    case s36 => intro _ _ θ b1 b2 w e1 e2 hw; exact at_load (t := 25) (ad := ⟨g1, 0, none⟩) (v := .agg Y.toArray) hw rfl (by kernel_rfl) (by kernel_rfl) (by kernel_rfl) (run_load_row hY.len (range_below_ hr1 hw.bl (by omega)))
    case s37 => intro _ _ θ b1 b2 w e1 e2 hw; exact at_call_n2 (fun _ _ _ => Names.below) (fun _ _ _ => Names.below) (v := .int .i64 (fi)) hw rfl (by kernel_rfl) (by kernel_rfl) (by kernel_rfl) (by have h := Far_any x y X Y w hX hY hx hy; rw [← hfi] at h; exact h)
    case s38 => intro _ _ θ b1 b2 w e1 e2 hw; exact at_run (u := .bool (decide (0 ≤ fi))) (v := .bool (true)) hw rfl (by kernel_rfl) (by kernel_rfl) (by kernel_rfl) (by rw [hf0])
    case s39 => intro _ _ θ b1 b2 w e1 e2 hw; exact at_pure hw rfl (by kernel_rfl) (by kernel_rfl)
    case s40 => intro _ _ θ b1 b2 w e1 e2 hw; exact at_pure hw rfl (by kernel_rfl) (by kernel_rfl)
    case s41 => intro _ _ θ b1 b2 w e1 e2 hw; exact at_load (t := 25) (ad := ⟨g0, 0, none⟩) (v := .agg X.toArray) hw rfl (by kernel_rfl) (by kernel_rfl) (by kernel_rfl) (run_load_row hX.len (range_below_ hr0 hw.bl (by omega)))
    case s42 => intro _ _ θ b1 b2 w e1 e2 hw; exact at_load (t := 25) (ad := ⟨g1, 0, none⟩) (v := .agg Y.toArray) hw rfl (by kernel_rfl) (by kernel_rfl) (by kernel_rfl) (run_load_row hY.len (range_below_ hr1 hw.bl (by omega)))
    case s43 => intro _ _ θ b1 b2 w e1 e2 hw; exact at_pure hw rfl (by kernel_rfl) (by kernel_rfl)
    case s44 => intro e1 e2; exact absurd rfl e1
    case s45 => intro _ _ θ b1 b2 w e1 e2 hw; exact at_load (t := 25) (ad := ⟨g1, 0, none⟩) (v := .agg Y.toArray) hw rfl (by kernel_rfl) (by kernel_rfl) (by kernel_rfl) (run_load_row hY.len (range_below_ hr1 hw.bl (by omega)))
    case s46 => intro _ _ θ b1 b2 w e1 e2 hw; exact at_load (t := 25) (ad := ⟨g0, 0, none⟩) (v := .agg X.toArray) hw rfl (by kernel_rfl) (by kernel_rfl) (by kernel_rfl) (run_load_row hX.len (range_below_ hr0 hw.bl (by omega)))
    case s47 => intro _ _ θ b1 b2 w e1 e2 hw; exact at_pure hw rfl (by kernel_rfl) (by kernel_rfl)
    case s48 => intro e1 e2; exact absurd rfl e2
    case s49 => intro _ _ θ b1 b2 w e1 e2 hw; exact at_call_n2 (fun _ _ _ => Names.below) (fun _ _ _ => Names.below) (v := .bool (true)) hw rfl (by kernel_rfl) (by kernel_rfl) (by kernel_rfl) (same_call x y close (hw.r1 (e1 (by kernel_rfl))) (hw.r2 (e2 (by kernel_rfl))))
    case s50 => intro _ _ θ b1 b2 w e1 e2 hw; exact at_pure hw rfl (by kernel_rfl) (by kernel_rfl)
    case s51 => intro _ _ θ b1 b2 w e1 e2 hw; exact at_pure hw rfl (by kernel_rfl) (by kernel_rfl)
    case hp => intro θ w hw; exact ⟨_, _, #[.agg X.toArray, .agg Y.toArray, .int .i64 close], rfl, rfl, (by kernel_rfl), (by kernel_rfl), differ_call x y X Y close w hX hY hc hx hy⟩
    case hq => intro θ w hw; exact ⟨_, _, #[.agg Y.toArray, .agg X.toArray, .int .i64 close], rfl, rfl, (by kernel_rfl), (by kernel_rfl), differ_call' x y X Y close w hX hY hc hx hy⟩
    intro θ w3 hw3
    simp only [mk2, putL_cons, putL_nil, Act.put, List.setIfInBounds_toArray, List.set_cons_succ, List.set_cons_zero]
    obtain ⟨hw3, _, _⟩ := hw3
    have hbw := hbw.trans (hw3.mono (by omega))
    go_wp2_with fail
    exact ⟨rfl, .bool true, by kernel_rfl, rfl, hbw⟩
  case true =>
    have hX := HhX.out; have hY := HhY.out; have hx := Hhx.out; have hy := Hhy.out; have hc := Hhc.out; have hcm := Hhcm.out; have hwr := Hhwr.out; have h0 := Hh0.out; have ha := Hha.out; have hfi := Hhfi.out; have hf0 := Hhf0.out; have hr0 := Hhr0.out; have hr1 := Hhr1.out; have hbw := Hhbw.out; have hs2 := Hhs2.out; have hs1 := Hhs1.out; have hg0 := Hhg0.out; have hg1 := Hhg1.out
    refine wp_cert_b2 (R1 := (fun v w => Names (differP x y close) v w)) (R2 := (fun v w => Names (differP x y close) v w)) [(34, .bool (true)), (35, .bool (true)), (36, .bool (true)), (37, .bool (true)), (38, .bool (true)), (39, .bool (true)), (40, .bool (true)), (41, .bool (true)), (42, .bool (false)), (43, .bool (false)), (44, .agg X.toArray), (45, .agg Y.toArray), (46, .int .i64 (close)), (47, .int .i64 (more)), (48, .int .i64 (close + more)), (49, .bool (true)), (50, .bool (true)), (51, .bool (true)), (52, .bool (true)), (53, .agg X.toArray), (54, .agg X.toArray), (55, .int .i64 (close)), (56, .bool (false)), (57, .bool (true)), (58, .bool (true)), (59, .bool (true)), (60, .agg X.toArray), (61, .agg Y.toArray), (62, .int .i64 (fi)), (63, .agg Y.toArray), (64, .agg X.toArray), (65, .int .i64 (fi)), (66, .bool (true)), (67, .bool (true)), (68, .bool (true)), (69, .agg X.toArray), (70, .agg Y.toArray), (71, .int .i64 (fi)), (72, .bool (true)), (73, .bool (true)), (74, .bool (true)), (75, .agg X.toArray), (76, .agg Y.toArray), (77, .int .i64 (close)), (79, .agg Y.toArray), (80, .agg X.toArray), (81, .int .i64 (close)), (83, .bool (true)), (84, .bool (true)), (8, .bool (true))] 44 48 78 82 52 (by rfl) (by kernel_rfl) (by kernel_rfl) (by omega) (by omega) (by omega) (by omega) (by show (78 : Nat) < 85; omega) (by show (82 : Nat) < 85; omega) (by kernel_rfl) (by kernel_rfl) (by kernel_rfl) (by kernel_rfl) (fun _ _ _ => Names.below) (fun _ _ _ => Names.below) ⟨?s0, ?s1, ?s2, ?s3, ?s4, ?s5, ?s6, ?s7, ?s8, ?s9, ?s10, ?s11, ?s12, ?s13, ?s14, ?s15, ?s16, ?s17, ?s18, ?s19, ?s20, ?s21, ?s22, ?s23, ?s24, ?s25, ?s26, ?s27, ?s28, ?s29, ?s30, ?s31, ?s32, ?s33, ?s34, ?s35, ?s36, ?s37, ?s38, ?s39, ?s40, ?s41, ?s42, ?s43, ?s44, ?s45, ?s46, ?s47, ?s48, ?s49, ?s50, ?s51, trivial⟩ ?hp ?hq ?_
    case s0 => intro _ _ θ b1 b2 w e1 e2 hw; exact at_call_n2 (fun _ _ _ => Names.below) (fun _ _ _ => Names.below) (v := .bool (true)) hw rfl (by kernel_rfl) (by kernel_rfl) (by kernel_rfl) (alive15 _)
    case s1 => intro _ _ θ b1 b2 w e1 e2 hw; exact at_pure hw rfl (by kernel_rfl) (by kernel_rfl)
    case s2 => intro _ _ θ b1 b2 w e1 e2 hw; exact at_pure hw rfl (by kernel_rfl) (by kernel_rfl)
    case s3 => intro _ _ θ b1 b2 w e1 e2 hw; exact at_pure hw rfl (by kernel_rfl) (by kernel_rfl)
    case s4 => intro _ _ θ b1 b2 w e1 e2 hw; exact at_pure hw rfl (by kernel_rfl) (by kernel_rfl)
    case s5 => intro _ _ θ b1 b2 w e1 e2 hw; exact at_pure hw rfl (by kernel_rfl) (by kernel_rfl)
    case s6 => intro _ _ θ b1 b2 w e1 e2 hw; exact at_pure hw rfl (by kernel_rfl) (by kernel_rfl)
    case s7 => intro _ _ θ b1 b2 w e1 e2 hw; exact at_pure hw rfl (by kernel_rfl) (by kernel_rfl)
    case s8 => intro _ _ θ b1 b2 w e1 e2 hw; exact at_pure hw rfl (by kernel_rfl) (by kernel_rfl)
    case s9 => intro _ _ θ b1 b2 w e1 e2 hw; exact at_pure hw rfl (by kernel_rfl) (by kernel_rfl)
    case s10 => intro _ _ θ b1 b2 w e1 e2 hw; exact at_load (t := 25) (ad := ⟨g0, 0, none⟩) (v := .agg X.toArray) hw rfl (by kernel_rfl) (by kernel_rfl) (by kernel_rfl) (run_load_row hX.len (range_below_ hr0 hw.bl (by omega)))
    case s11 => intro _ _ θ b1 b2 w e1 e2 hw; exact at_load (t := 25) (ad := ⟨g1, 0, none⟩) (v := .agg Y.toArray) hw rfl (by kernel_rfl) (by kernel_rfl) (by kernel_rfl) (run_load_row hY.len (range_below_ hr1 hw.bl (by omega)))
    case s12 => intro _ _ θ b1 b2 w e1 e2 hw; exact at_pure hw rfl (by kernel_rfl) (by kernel_rfl)
    case s13 => intro _ _ θ b1 b2 w e1 e2 hw; exact at_pure hw rfl (by kernel_rfl) (by kernel_rfl)
    case s14 => intro _ _ θ b1 b2 w e1 e2 hw; exact at_run (u := .int .i64 (IntKind.i64.wrap (close + more))) (v := .int .i64 (close + more)) hw rfl (by kernel_rfl) (by kernel_rfl) (by kernel_rfl) (by rw [hwr])
    case s15 => intro _ _ θ b1 b2 w e1 e2 hw; exact at_call_n2 (fun _ _ _ => Names.below) (fun _ _ _ => Names.below) (v := .bool (true)) hw rfl (by kernel_rfl) (by kernel_rfl) (by kernel_rfl) (by have h := fits_any x y X Y (close + more) w hX hY hcm hx hy; rw [fits_more x y close more h0 ha] at h; exact h)
    case s16 => intro _ _ θ b1 b2 w e1 e2 hw; exact at_pure hw rfl (by kernel_rfl) (by kernel_rfl)
    case s17 => intro _ _ θ b1 b2 w e1 e2 hw; exact at_pure hw rfl (by kernel_rfl) (by kernel_rfl)
    case s18 => intro _ _ θ b1 b2 w e1 e2 hw; exact at_pure hw rfl (by kernel_rfl) (by kernel_rfl)
    case s19 => intro _ _ θ b1 b2 w e1 e2 hw; exact at_load (t := 25) (ad := ⟨g0, 0, none⟩) (v := .agg X.toArray) hw rfl (by kernel_rfl) (by kernel_rfl) (by kernel_rfl) (run_load_row hX.len (range_below_ hr0 hw.bl (by omega)))
    case s20 => intro _ _ θ b1 b2 w e1 e2 hw; exact at_load (t := 25) (ad := ⟨g0, 0, none⟩) (v := .agg X.toArray) hw rfl (by kernel_rfl) (by kernel_rfl) (by kernel_rfl) (run_load_row hX.len (range_below_ hr0 hw.bl (by omega)))
    case s21 => intro _ _ θ b1 b2 w e1 e2 hw; exact at_pure hw rfl (by kernel_rfl) (by kernel_rfl)
    case s22 => intro _ _ θ b1 b2 w e1 e2 hw; exact at_call_n2 (fun _ _ _ => Names.below) (fun _ _ _ => Names.below) (v := .bool (false)) hw rfl (by kernel_rfl) (by kernel_rfl) (by kernel_rfl) (by have h := fits_any x x X X (close) w hX hX hc hx hx; rw [fits_self] at h; exact h)
    case s23 => intro _ _ θ b1 b2 w e1 e2 hw; exact at_pure hw rfl (by kernel_rfl) (by kernel_rfl)
    case s24 => intro _ _ θ b1 b2 w e1 e2 hw; exact at_pure hw rfl (by kernel_rfl) (by kernel_rfl)
    case s25 => intro _ _ θ b1 b2 w e1 e2 hw; exact at_pure hw rfl (by kernel_rfl) (by kernel_rfl)
    case s26 => intro _ _ θ b1 b2 w e1 e2 hw; exact at_load (t := 25) (ad := ⟨g0, 0, none⟩) (v := .agg X.toArray) hw rfl (by kernel_rfl) (by kernel_rfl) (by kernel_rfl) (run_load_row hX.len (range_below_ hr0 hw.bl (by omega)))
    case s27 => intro _ _ θ b1 b2 w e1 e2 hw; exact at_load (t := 25) (ad := ⟨g1, 0, none⟩) (v := .agg Y.toArray) hw rfl (by kernel_rfl) (by kernel_rfl) (by kernel_rfl) (run_load_row hY.len (range_below_ hr1 hw.bl (by omega)))
    case s28 => intro _ _ θ b1 b2 w e1 e2 hw; exact at_call_n2 (fun _ _ _ => Names.below) (fun _ _ _ => Names.below) (v := .int .i64 (fi)) hw rfl (by kernel_rfl) (by kernel_rfl) (by kernel_rfl) (by have h := Far_any x y X Y w hX hY hx hy; rw [← hfi] at h; exact h)
    case s29 => intro _ _ θ b1 b2 w e1 e2 hw; exact at_load (t := 25) (ad := ⟨g1, 0, none⟩) (v := .agg Y.toArray) hw rfl (by kernel_rfl) (by kernel_rfl) (by kernel_rfl) (run_load_row hY.len (range_below_ hr1 hw.bl (by omega)))
    case s30 => intro _ _ θ b1 b2 w e1 e2 hw; exact at_load (t := 25) (ad := ⟨g0, 0, none⟩) (v := .agg X.toArray) hw rfl (by kernel_rfl) (by kernel_rfl) (by kernel_rfl) (run_load_row hX.len (range_below_ hr0 hw.bl (by omega)))
    case s31 => intro _ _ θ b1 b2 w e1 e2 hw; exact at_call_n2 (fun _ _ _ => Names.below) (fun _ _ _ => Names.below) (v := .int .i64 (fi)) hw rfl (by kernel_rfl) (by kernel_rfl) (by kernel_rfl) (by have h := Far_any y x Y X w hY hX hy hx; rw [farI_comm y x, ← hfi] at h; exact h)
    case s32 => intro _ _ θ b1 b2 w e1 e2 hw; exact at_run (u := .bool (fi == fi)) (v := .bool (true)) hw rfl (by kernel_rfl) (by kernel_rfl) (by kernel_rfl) (by simp)
    case s33 => intro _ _ θ b1 b2 w e1 e2 hw; exact at_pure hw rfl (by kernel_rfl) (by kernel_rfl)
    case s34 => intro _ _ θ b1 b2 w e1 e2 hw; exact at_pure hw rfl (by kernel_rfl) (by kernel_rfl)
    case s35 => intro _ _ θ b1 b2 w e1 e2 hw; exact at_load (t := 25) (ad := ⟨g0, 0, none⟩) (v := .agg X.toArray) hw rfl (by kernel_rfl) (by kernel_rfl) (by kernel_rfl) (run_load_row hX.len (range_below_ hr0 hw.bl (by omega)))
    case s36 => intro _ _ θ b1 b2 w e1 e2 hw; exact at_load (t := 25) (ad := ⟨g1, 0, none⟩) (v := .agg Y.toArray) hw rfl (by kernel_rfl) (by kernel_rfl) (by kernel_rfl) (run_load_row hY.len (range_below_ hr1 hw.bl (by omega)))
    case s37 => intro _ _ θ b1 b2 w e1 e2 hw; exact at_call_n2 (fun _ _ _ => Names.below) (fun _ _ _ => Names.below) (v := .int .i64 (fi)) hw rfl (by kernel_rfl) (by kernel_rfl) (by kernel_rfl) (by have h := Far_any x y X Y w hX hY hx hy; rw [← hfi] at h; exact h)
    case s38 => intro _ _ θ b1 b2 w e1 e2 hw; exact at_run (u := .bool (decide (0 ≤ fi))) (v := .bool (true)) hw rfl (by kernel_rfl) (by kernel_rfl) (by kernel_rfl) (by rw [hf0])
    case s39 => intro _ _ θ b1 b2 w e1 e2 hw; exact at_pure hw rfl (by kernel_rfl) (by kernel_rfl)
    case s40 => intro _ _ θ b1 b2 w e1 e2 hw; exact at_pure hw rfl (by kernel_rfl) (by kernel_rfl)
    case s41 => intro _ _ θ b1 b2 w e1 e2 hw; exact at_load (t := 25) (ad := ⟨g0, 0, none⟩) (v := .agg X.toArray) hw rfl (by kernel_rfl) (by kernel_rfl) (by kernel_rfl) (run_load_row hX.len (range_below_ hr0 hw.bl (by omega)))
    case s42 => intro _ _ θ b1 b2 w e1 e2 hw; exact at_load (t := 25) (ad := ⟨g1, 0, none⟩) (v := .agg Y.toArray) hw rfl (by kernel_rfl) (by kernel_rfl) (by kernel_rfl) (run_load_row hY.len (range_below_ hr1 hw.bl (by omega)))
    case s43 => intro _ _ θ b1 b2 w e1 e2 hw; exact at_pure hw rfl (by kernel_rfl) (by kernel_rfl)
    case s44 => intro e1 e2; exact absurd rfl e1
    case s45 => intro _ _ θ b1 b2 w e1 e2 hw; exact at_load (t := 25) (ad := ⟨g1, 0, none⟩) (v := .agg Y.toArray) hw rfl (by kernel_rfl) (by kernel_rfl) (by kernel_rfl) (run_load_row hY.len (range_below_ hr1 hw.bl (by omega)))
    case s46 => intro _ _ θ b1 b2 w e1 e2 hw; exact at_load (t := 25) (ad := ⟨g0, 0, none⟩) (v := .agg X.toArray) hw rfl (by kernel_rfl) (by kernel_rfl) (by kernel_rfl) (run_load_row hX.len (range_below_ hr0 hw.bl (by omega)))
    case s47 => intro _ _ θ b1 b2 w e1 e2 hw; exact at_pure hw rfl (by kernel_rfl) (by kernel_rfl)
    case s48 => intro e1 e2; exact absurd rfl e2
    case s49 => intro _ _ θ b1 b2 w e1 e2 hw; exact at_call_n2 (fun _ _ _ => Names.below) (fun _ _ _ => Names.below) (v := .bool (true)) hw rfl (by kernel_rfl) (by kernel_rfl) (by kernel_rfl) (same_call x y close (hw.r1 (e1 (by kernel_rfl))) (hw.r2 (e2 (by kernel_rfl))))
    case s50 => intro _ _ θ b1 b2 w e1 e2 hw; exact at_pure hw rfl (by kernel_rfl) (by kernel_rfl)
    case s51 => intro _ _ θ b1 b2 w e1 e2 hw; exact at_pure hw rfl (by kernel_rfl) (by kernel_rfl)
    case hp => intro θ w hw; exact ⟨_, _, #[.agg X.toArray, .agg Y.toArray, .int .i64 close], rfl, rfl, (by kernel_rfl), (by kernel_rfl), differ_call x y X Y close w hX hY hc hx hy⟩
    case hq => intro θ w hw; exact ⟨_, _, #[.agg Y.toArray, .agg X.toArray, .int .i64 close], rfl, rfl, (by kernel_rfl), (by kernel_rfl), differ_call' x y X Y close w hX hY hc hx hy⟩
    intro θ w3 hw3
    simp only [mk2, putL_cons, putL_nil, Act.put, List.setIfInBounds_toArray, List.set_cons_succ, List.set_cons_zero]
    obtain ⟨hw3, _, _⟩ := hw3
    have hbw := hbw.trans (hw3.mono (by omega))
    go_wp2_with fail
    exact ⟨rfl, .bool true, by kernel_rfl, rfl, hbw⟩
end Go.Proofs.Ytjanmnjmnnnfmaa
