/- slices.MinFunc over instructions. -/
import Derived.Test.YtjanmnjmnnnfmaaDel
namespace Go.Proofs.Ytjanmnjmnnnfmaa
open Go.RowKit RC

theorem run_index (w : World) (g off n c j : Nat) (hj : j < n) : (Instr.indexAt 33 (.slice (some ⟨g, off, none⟩) n c) (.int .i64 (j : Int))).run Try.prog w = .ok (.pointer (some ⟨g, off + j * 21, none⟩)) w := by
  have h1 : (j : Int) < (n : Int) := by omega
  have hz := size_inst
  simp [go_sem, h1, hz, Try.underlying33]
/-- A result that is a struct in memory. -/
theorem results_cell_range {fn : Func} {p : Tmp} (h : fn.results = #[.cell p 25]) (tmps : Array Value) (w : World) (g : Nat) (X : List Value)
    (hp : tmps.getD p undef = .pointer (some ⟨g, 0, none⟩)) (hr : w.rangeAt g 0 X) (hl : X.length = 21) : (results fn tmps).run Try.prog w = .ok (.agg X.toArray) w := by
  have hp' : tmps[p]?.getD undef = .pointer (some ⟨g, 0, none⟩) := by simpa using hp
  simp [results, h, hp', asAddr, run_loadVar_mid (P := Try.prog) w g 0 25 X _ hr Try.underlying25 rfl (by rw [info_inst, hl])]
/-- The least of m and what follows; of equals the first. -/
def minFrom (c : Ins → Ins → Int) (m : Ins) : List Ins → Ins
  | [] => m
  | y :: l => minFrom c (if c y m < 0 then y else m) l
theorem minFrom_snoc (c : Ins → Ins → Int) : ∀ (l : List Ins) (m y : Ins), minFrom c m (l ++ [y]) = if c y (minFrom c m l) < 0 then y else minFrom c m l
  | [], _, _ => rfl
  | z :: l, m, y => by simp only [List.cons_append, minFrom]; exact minFrom_snoc c l _ y
theorem minFrom_mem (c : Ins → Ins → Int) : ∀ (l : List Ins) (m : Ins), minFrom c m l = m ∨ minFrom c m l ∈ l
  | [], _ => .inl rfl
  | z :: l, m => by
    simp only [minFrom]
    rcases minFrom_mem c l (if c z m < 0 then z else m) with h | h
    · rw [h]
      split
      · exact .inr (by simp)
      · exact .inl rfl
    · exact .inr (by simp [h])
def minL (c : Ins → Ins → Int) (d : List Ins) : Ins := minFrom c (d.headD Ins.zero) (d.drop 1)
def MinRel (c : Ins → Ins → Int) (d : List Ins) (w : World) (left : Nat) (s6 : Value) (W : World) : Prop :=
  ∃ (j : Nat) (m : Ins), s6 = .int .i64 j ∧ left = d.length - j ∧ 1 ≤ j ∧ j ≤ d.length ∧ m = minFrom c (d.headD Ins.zero) ((d.take j).drop 1) ∧ m ∈ d ∧ W.rangeAt (w.heap.size + 1) 0 m.row ∧ W.there (w.heap.size + 1) 0 21 ∧ W.there w.heap.size 0 21 ∧ Below w.heap.size w W

set_option maxHeartbeats 1600000 in
set_option maxRecDepth 100000 in
theorem minFunc_any {S : Nat → Prop} {ok : Ins → Prop} (f : Nat) (lb : Array Value) (eg : ∀ args w, (callFunc f args).run Try.prog w = .ok (.enter f args) w) (cf : Ins → Ins → Int) (g off n c : Nat) (d : List Ins) (w : World)
    (hd : d.length = n) (hn0 : 0 < n) (hmax : n ≤ 1000000000) (hat : InsAt w g off d) (hp : CmpOk w S f lb cf ok) (hok : ∀ x ∈ d, ok x) :
    Calls Try.prog 35 #[.slice (some ⟨g, off, none⟩) n c, .func (.func f) #[] lb] w fun r w' => r = .returned (.agg (minL cf d).row.toArray) ∧ Below w.heap.size w w' := by
  subst hd
  have hg := hat.lt hn0
  have hr0 := (hat.at_ hn0).1
  rw [Nat.zero_mul, Nat.add_zero] at hr0
  obtain ⟨X0, hX0⟩ : ∃ X, X = d[0].row := ⟨_, rfl⟩
  have hrow0 : X0.length = 21 := by rw [hX0]; rfl
  have hone0 : ∀ v ∈ X0, v.oneCell' = true := by rw [hX0]; exact row_one _
  rw [← hX0] at hr0
  have f1 : ¬ ((d.length : Int) < 1) := by omega
  have Hhat := hide hat
  have Hhp := hide hp
  have Hhok := hide hok
  have HhX0 := hide hX0
  have Hhone0 := hide hone0
  clear hat hp hok hX0 hone0
  have hb1 : Below w.heap.size w (w.alloc (.cells Ins.zero.row.toArray 25)) := (Below.refl _ w).alloc (Nat.le_refl _) _
  have hr1 := range_below_ hr0 hb1 hg
  have Hhr0 := hide hr0
  have Hhr1 := hide hr1
  clear hr0 hr1
  go_enter Try.func35, Try.ntmps35
  go_wp2_with (first | (guard_target =~ wpList _ _ _ (Oper.mk _ (Op.load 25 (.tmp 12)) _ _ _ _ :: _) _ _; refine wp_load_row (by rfl) _ rfl g off rfl X0 hrow0 Hhr1.out ?_) | (guard_target =~ wpList _ _ _ (Oper.mk _ (Op.store 25 (.tmp 5) _) _ _ _ _ :: _) _ _; refine wp_store_row rfl _ _ rfl (w.heap.size + 1) 0 rfl X0 rfl hrow0 Hhone0.out (there_new_at _ _ _ (by simp) rfl) ?_))
  refine wp_world (fun W => W.rangeAt (w.heap.size + 1) 0 X0 ∧ W.there (w.heap.size + 1) 0 21 ∧ W.there w.heap.size 0 21 ∧ Below w.heap.size w W) ?_ ?_
  · have t1 := there_new_at (w.alloc (.cells Ins.zero.row.toArray 25)) Ins.zero.row.toArray (w.heap.size + 1) (by simp) rfl
    have t2 := there_only (there_new w Ins.zero.row.toArray rfl) ((Only.refl (fun _ => False) _).alloc (.cells Ins.zero.row.toArray 25)) (fun h => h) (by simp)
    refine ⟨World.rangeAt_setCells_same _ _ _ _ (by rw [hrow0]; exact t1), World.there_setCells t1 _ _ _, World.there_setCells t2 _ _ _, ?_⟩
    exact (Only.setCells (S := fun k => k = w.heap.size + 1) (w.heap.size + 1) (.inl rfl) _ _ _ (((Only.refl _ w).alloc _).alloc _)).toBelow (Nat.le_refl _) (fun k hk => by omega)
  rintro W1 ⟨a1, a2, a3, a4⟩
  have Ha1 := hide a1
  have Ha2 := hide a2
  have Ha3 := hide a3
  have Ha4 := hide a4
  clear a1 a2 a3 a4
  go_loopg [6] (d.length - 1) (fun left s6 wx => MinRel cf d w left s6 wx)
  case atStart =>
    have hh : d.headD Ins.zero = d[0] := by cases d with | nil => simp at hn0 | cons x d => rfl
    refine ⟨1, d[0], by go_num, rfl, Nat.le_refl _, hn0, ?_, List.getElem_mem hn0, by rw [← HhX0.out]; exact Ha1.out, Ha2.out, Ha3.out, Ha4.out⟩
    rw [hh, List.drop_of_length_le (by rw [List.length_take]; omega)]
    rfl
  case round =>
    obtain ⟨j, m, rfl, rfl, hj1, hjd, hm, hmm, hrm, htm, ht0, hb⟩ := hrel
    obtain ⟨M, hM⟩ : ∃ M, M = m.row := ⟨_, rfl⟩
    have hrowM : M.length = 21 := by rw [hM]; rfl
    rw [← hM] at hrm
    by_cases hlt : j < d.length
    · have d1 : decide ((j : Int) < (d.length : Int)) = true := by rw [decide_eq_true_iff]; omega
      obtain ⟨X, hX⟩ : ∃ X, X = d[j].row := ⟨_, rfl⟩
      have hrowX : X.length = 21 := by rw [hX]; rfl
      have honeX : ∀ v ∈ X, v.oneCell' = true := by rw [hX]; exact row_one _
      have hrx := ((Hhat.out.below hb hg).at_ hlt).1
      rw [← hX] at hrx
      have hgs : w.heap.size + 1 < wr.heap.size := World.block_lt_of_cell? _ _ (hrm 0 _ (List.getElem?_eq_getElem (by omega)))
      have hgw : g < wr.heap.size := Nat.lt_of_lt_of_le hg hb.size
      have hcall : ∀ W, Only S w W → Calls Try.prog f (#[.agg X.toArray, .agg M.toArray] ++ lb) W fun r w' => r = .returned (.int .i64 (cf d[j] m)) ∧ Below W.heap.size W w' := fun W hW => by
        rw [hX, hM]
        exact Hhp.out W d[j] m (Hhok.out _ (List.getElem_mem hlt)) (Hhok.out _ hmm) hW
      have HhX := hide hX
      have HhM := hide hM
      have Hhm := hide hm
      have Hhmm := hide hmm
      have Hhrm := hide hrm
      have Hhtm := hide htm
      have Hht0 := hide ht0
      have Hhb := hide hb
      have Hhrx := hide hrx
      have Hhcall := hide hcall
      have HhoneX := hide honeX
      clear hX hM hm hmm hrm htm ht0 hb hrx hcall honeX
      go_wp2_with fail
      have hC0 : ∀ b W, cond b (Below wr.heap.size wr W) (∃ n, W = wr.drewN n) → W.rangeAt g (off + j * 21) X ∧ W.rangeAt (w.heap.size + 1) 0 M := by
        intro b W hW
        cases b
        · obtain ⟨n, rfl⟩ := hW
          exact ⟨Hhrx.out, Hhrm.out⟩
        · exact ⟨range_below_ Hhrx.out hW hgw, range_below_ Hhrm.out hW hgs⟩
      have HhC0 := hide hC0
      clear hC0
      refine wp_cert_l (C := fun b W => cond b (Below wr.heap.size wr W) (∃ n, W = wr.drewN n)) [(20, .func (.func f) #[] lb), (21, .slice (some ⟨g, off, none⟩) d.length c), (22, .int .i64 j), (23, .pointer (some ⟨g, off + j * 21, none⟩)), (24, .agg X.toArray), (25, .agg M.toArray), (26, .int .i64 (cf d[j] m)), (27, .bool (decide (cf d[j] m < 0)))] 6 8 (by rfl) (by kernel_rfl) (by kernel_rfl) (by omega) (by kernel_rfl) (by kernel_rfl) ⟨1, rfl⟩ ⟨?s0, ?s1, ?s2, ?s3, ?s4, ?s5, ?s6, ?s7, trivial⟩ ?call ?fin
      case s0 => intro _ b W hw; exact at_pure hw rfl (by kernel_rfl) (by kernel_rfl)
      case s1 => intro _ b W hw; exact at_pure hw rfl (by kernel_rfl) (by kernel_rfl)
      case s2 => intro _ b W hw; exact at_pure hw rfl (by kernel_rfl) (by kernel_rfl)
      case s3 =>
        intro _ b W hw
        exact at_sem (sv := Instr.indexAt 33 (.slice (some ⟨g, off, none⟩) d.length c) (.int .i64 j)) (v := .pointer (some ⟨g, off + j * 21, none⟩)) hw rfl (by kernel_rfl) (by kernel_rfl) (by kernel_rfl) (run_index W g off _ c j hlt)
      case s4 => intro _ b W hw; exact at_load (t := 25) (ad := ⟨g, off + j * 21, none⟩) (v := .agg X.toArray) hw rfl (by kernel_rfl) (by kernel_rfl) (by kernel_rfl) (run_load_row hrowX (HhC0.out b W hw).1)
      case s5 => intro _ b W hw; exact at_load (t := 25) (ad := ⟨w.heap.size + 1, 0, none⟩) (v := .agg M.toArray) hw rfl (by kernel_rfl) (by kernel_rfl) (by kernel_rfl) (run_load_row hrowM (HhC0.out b W hw).2)
      case s6 => exact fun h => absurd rfl h
      case s7 => intro _ b W hw; exact at_pure hw rfl (by kernel_rfl) (by kernel_rfl)
      case call =>
        rintro W ⟨n, rfl⟩
        refine at_call (f := f) (args := #[.agg X.toArray, .agg M.toArray] ++ lb) (v := .int .i64 (cf d[j] m)) rfl (by kernel_rfl) (by kernel_rfl) (exec_fn rfl (by kernel_rfl) (by kernel_rfl) eg) ?_
        refine (Hhcall.out (wr.drewN n) ?_).mono ?_
        · exact ⟨Hhb.out.os, Hhb.out.tape, Hhb.out.output, Hhb.out.size, fun q hq _ => Hhb.out.block q hq⟩
        · rintro r w' ⟨rfl, hb2⟩
          exact ⟨rfl, (below_drewN (Below.refl wr.heap.size wr) n).trans hb2⟩
      case fin =>
        intro W hW
        simp only [putL_cons, putL_nil, Act.put, List.setIfInBounds_toArray, List.set_cons_succ, List.set_cons_zero]
        have hbw : Below wr.heap.size wr W := hW
        have hrx2 := range_below_ Hhrx.out hbw hgw
        have hrm2 := range_below_ Hhrm.out hbw hgs
        have htm2 : W.there (w.heap.size + 1) 0 21 := there_only (S := fun k => wr.heap.size ≤ k) Hhtm.out ⟨hbw.os, hbw.tape, hbw.output, hbw.size, fun k hk hn => hbw.block k (by omega)⟩ (by omega) hgs
        have ht02 : W.there w.heap.size 0 21 := there_only (S := fun k => wr.heap.size ≤ k) Hht0.out ⟨hbw.os, hbw.tape, hbw.output, hbw.size, fun k hk hn => hbw.block k (by omega)⟩ (by omega) (by omega)
        have hbb := Hhb.out.trans (hbw.mono Hhb.out.size)
        have htk : (d.take (j + 1)).drop 1 = (d.take j).drop 1 ++ [d[j]] := by
          rw [List.take_succ_eq_append_getElem hlt, List.drop_append_of_le_length (by rw [List.length_take]; omega)]
        have hnext : minFrom cf (d.headD Ins.zero) ((d.take (j + 1)).drop 1) = if cf d[j] m < 0 then d[j] else m := by rw [htk, minFrom_snoc, ← Hhm.out]
        clear htk hW
        have Hhbw := hide hbw
        have Hhrx2 := hide hrx2
        have Hhrm2 := hide hrm2
        have Hhtm2 := hide htm2
        have Hht02 := hide ht02
        have Hhbb := hide hbb
        have Hhnext := hide hnext
        clear hbw hrx2 hrm2 htm2 ht02 hbb hnext
        by_cases hc : cf d[j] m < 0
        · have d2 : decide (cf d[j] m < 0) = true := by rw [decide_eq_true_iff]; omega
          go_wp2_with (first | (guard_target =~ wpList _ _ _ (Oper.mk _ (Op.load 25 (.tmp 30)) _ _ _ _ :: _) _ _; refine wp_load_row (by rfl) _ rfl g (off + j * 21) rfl X hrowX Hhrx2.out ?_) | (guard_target =~ wpList _ _ _ (Oper.mk _ (Op.store 25 (.tmp 5) _) _ _ _ _ :: _) _ _; refine wp_store_row rfl _ _ rfl (w.heap.size + 1) 0 rfl X rfl hrowX HhoneX.out Hhtm2.out ?_))
          go_roundg (d.length - (j + 1))
          case measure => omega
          case rel =>
            refine ⟨j + 1, d[j], by go_num, rfl, by omega, hlt, by rw [Hhnext.out, if_pos hc], List.getElem_mem hlt, ?_, World.there_setCells Hhtm2.out _ _ _, World.there_setCells Hht02.out _ _ _, ?_⟩
            · rw [← HhX.out]; exact World.rangeAt_setCells_same _ _ _ _ (by rw [hrowX]; exact Hhtm2.out)
            · exact Hhbb.out.trans ((Only.setCells (S := fun k => k = w.heap.size + 1) (w.heap.size + 1) (.inl rfl) X 0 W (Only.refl _ _)).toBelow Hhbb.out.size (fun k hk => by omega))
        · have d2 : decide (cf d[j] m < 0) = false := by rw [decide_eq_false_iff_not]; omega
          go_wp2_with fail
          go_roundg (d.length - (j + 1))
          case measure => omega
          case rel =>
            refine ⟨j + 1, m, by go_num, rfl, by omega, hlt, by rw [Hhnext.out, if_neg (by omega)], Hhmm.out, ?_, Hhtm2.out, Hht02.out, Hhbb.out⟩
            rw [← HhM.out]; exact Hhrm2.out
    · have d1 : decide ((j : Int) < (d.length : Int)) = false := by rw [decide_eq_false_iff_not]; omega
      have hje : j = d.length := by omega
      have hfin : m = minL cf d := by rw [hm, hje, List.take_length]; rfl
      have honeM : ∀ v ∈ M, v.oneCell' = true := by rw [hM]; exact row_one _
      have HhM := hide hM
      have Hhm := hide hm
      have Hhmm := hide hmm
      have Hhrm := hide hrm
      have Hhtm := hide htm
      have Hht0 := hide ht0
      have Hhb := hide hb
      have Hhfin := hide hfin
      have HhoneM := hide honeM
      clear hM hm hmm hrm htm ht0 hb hfin honeM
      clear hje
      go_wp2_with (first | (guard_target =~ wpList _ _ _ (Oper.mk _ (Op.load 25 (.tmp 5)) _ _ _ _ :: _) _ _; refine wp_load_row (by rfl) _ rfl (w.heap.size + 1) 0 rfl M hrowM Hhrm.out ?_) | (guard_target =~ wpList _ _ _ (Oper.mk _ (Op.store 25 (.tmp 4) _) _ _ _ _ :: _) _ _; refine wp_store_row rfl _ _ rfl w.heap.size 0 rfl M rfl hrowM HhoneM.out Hht0.out ?_))
      have hres : (wr.setCells w.heap.size 0 M).rangeAt w.heap.size 0 M := World.rangeAt_setCells_same _ _ _ _ (by rw [hrowM]; exact Hht0.out)
      have hbe : Below w.heap.size w (wr.setCells w.heap.size 0 M) := Hhb.out.trans ((Only.setCells (S := fun k => k = w.heap.size) w.heap.size (.inl rfl) M 0 wr (Only.refl _ _)).toBelow Hhb.out.size (fun k hk => by omega))
      refine bodyPost_ret (results_cell_range rfl _ _ w.heap.size M rfl hres hrowM) rfl ?_
      rw [← Hhfin.out, ← HhM.out]
      exact ⟨rfl, hbe⟩
end Go.Proofs.Ytjanmnjmnnnfmaa
