/- The function values of match.Mate. -/
import Derived.Test.YtjanmnjmnnnfmaaFits
import Derived.Deep.RegionHeld3
import Derived.BigQuiet
namespace Go.Proofs.Ytjanmnjmnnnfmaa
open Go.RowKit

set_option maxHeartbeats 800000 in
set_option maxRecDepth 100000 in
theorem mate1 (x y : Ins) (X Y : List Value) (close : Int) (gx gc : Nat) (w : World) (hX : RowIs x X) (hY : RowIs y Y) (hc : bd close) (hx : bd x.am) (hy : bd y.am) (hrx : w.rangeAt gx 0 X) (hcc : w.cell? ⟨gc, 0, none⟩ = some (.int .i64 close)) (hgx : gx < w.heap.size) (hgc : gc < w.heap.size) :
    Calls Try.prog 34 #[.agg Y.toArray, .pointer (some ⟨gx, 0, none⟩), .pointer (some ⟨gc, 0, none⟩)] w fun r w' => r = .returned (.bool (y.id == x.id || !fitsP x y close)) ∧ Below w.heap.size w w' := by
  have hn := new_row w Y hY.len 25
  have hb : Below w.heap.size w (w.alloc (.cells Y.toArray 25)) := (Below.refl _ w).alloc (Nat.le_refl _) _
  have hrx2 : (w.alloc (.cells Y.toArray 25)).rangeAt gx 0 X := fun j v hv => (hb.cell (p := ⟨gx, 0 + j, none⟩) hgx).trans (hrx j v hv)
  have hcc2 := (hb.cell (p := ⟨gc, 0, none⟩) hgc).trans hcc
  have c1 := range_zero hn.1 0 _ hY.id
  have c2 := range_zero hrx2 0 _ hX.id
  have hny := hn.1
  clear hn hrx hcc
  have Hhny := hide hny
  have Hhb := hide hb
  have Hhrx2 := hide hrx2
  clear hny hb hrx2
  by_cases h : y.id = x.id
  · have d1 : (y.id == x.id) = true := by rw [h]; simp
    go_enter Try.func34, Try.ntmps34
    go_wp2_with fail
    go_ret
    rw [d1]
    exact ⟨rfl, Hhb.out⟩
  · have d1 : (y.id == x.id) = false := by simpa using h
    go_enter Try.func34, Try.ntmps34
    go_wp2_with (guard_target =~ wpList _ _ _ (Oper.mk _ (Op.load 25 _) _ _ _ _ :: _) _ _; first | refine wp_load_row (by rfl) _ rfl gx 0 rfl X hX.len Hhrx2.out ?_ | refine wp_load_row (by rfl) _ rfl w.heap.size 0 rfl Y hY.len Hhny.out ?_)
    refine (fits_any x y X Y close _ hX hY hc hx hy).mono ?_
    rintro r W2 ⟨rfl, hb2⟩
    have hB := Hhb.out.trans (hb2.mono Hhb.out.size)
    have Hhb2 := hide hb2
    have HhB := hide hB
    clear hb2 hB
    go_wp2_with fail
    go_ret
    rw [d1]
    exact ⟨rfl, HhB.out⟩

/-- What Mate compares by. -/
def nearI (x a b : Ins) : Int := or2 (cmpI (farN x.am a.am) (farN x.am b.am)) (cmpI a.id b.id)
set_option maxHeartbeats 800000 in
set_option maxRecDepth 100000 in
theorem mate2 (x a b : Ins) (X A B : List Value) (gx : Nat) (w : World) (hX : RowIs x X) (hA : RowIs a A) (hB : RowIs b B) (hx : bd x.am) (ha : bd a.am) (hb : bd b.am) (hrx : w.rangeAt gx 0 X) (hgx : gx < w.heap.size) :
    Calls Try.prog 36 #[.agg A.toArray, .agg B.toArray, .pointer (some ⟨gx, 0, none⟩)] w fun r w' => r = .returned (.int .i64 (nearI x a b)) ∧ Below w.heap.size w w' := by
  have h2 := two_ranges w A B
  have hbw := below_two w (.cells A.toArray 25) (.cells B.toArray 25)
  have hrx2 : ((w.alloc (.cells A.toArray 25)).alloc (.cells B.toArray 25)).rangeAt gx 0 X := fun j v hv => (hbw.cell (p := ⟨gx, 0 + j, none⟩) hgx).trans (hrx j v hv)
  have c1 := range_zero hrx2 10 _ hX.am
  have c2 := range_zero h2.1 10 _ hA.am
  have c3 := range_zero h2.2 10 _ hB.am
  have c4 := range_zero h2.1 0 _ hA.id
  have c5 := range_zero h2.2 0 _ hB.id
  clear h2 hrx hrx2
  have Hhbw := hide hbw
  clear hbw
  go_enter Try.func36, Try.ntmps36
  go_wp2_with fail
  generalize (w.alloc (.cells A.toArray 25)).alloc (.cells B.toArray 25) = W1 at Hhbw c1 c2 c3 c4 c5 ⊢
  have CO : ∀ (q : Nat) (u v : Int), Calls Try.prog 37 #[.slice (some ⟨W1.heap.size, 0, none⟩) 2 2] ((W1.alloc (.cells #[.int .i64 u, .int .i64 v] 3)).drewN q) fun r w' => r = .returned (.int .i64 (or2 u v)) ∧ w' = ((W1.alloc (.cells #[.int .i64 u, .int .i64 v] 3)).drewN q) := fun q u v => or_two W1.heap.size u v _ (by show (W1.alloc _).cell? _ = _; rw [blk_cell (blk_new W1 _)]; rfl) (by show (W1.alloc _).cell? _ = _; rw [blk_cell (blk_new W1 _)]; rfl)
  go_region_held3 (fun W => W.cell? ⟨gx, 10, none⟩ = some (.int .i64 x.am) ∧ W.cell? ⟨w.heap.size, 10, none⟩ = some (.int .i64 a.am) ∧ W.cell? ⟨w.heap.size + 1, 10, none⟩ = some (.int .i64 b.am) ∧ W.cell? ⟨w.heap.size, 0, none⟩ = some (.int .i64 a.id) ∧ W.cell? ⟨w.heap.size + 1, 0, none⟩ = some (.int .i64 b.id)) (go_keep) (first | (go_at_call 31; refine (far_any _ _ _ hx (by assumption)).mono ?_; rintro r w' ⟨rfl, rfl⟩) | (go_at_call 38; refine (compare_u64 _ _ _).mono ?_; rintro r w' ⟨rfl, rfl⟩) | (go_at_call 39; refine (compare_int _ _ _).mono ?_; rintro r w' ⟨rfl, rfl⟩) | (go_at_call 37; refine (CO 1 _ _).mono ?_; rintro r w' ⟨rfl, rfl⟩))
  all_goals
    go_wp2_with fail
    go_ret
    exact ⟨rfl, Hhbw.out.trans ((below_drewN ((Below.refl W1.heap.size W1).alloc (Nat.le_refl _) _) 1).mono Hhbw.out.size)⟩
end Go.Proofs.Ytjanmnjmnnnfmaa
