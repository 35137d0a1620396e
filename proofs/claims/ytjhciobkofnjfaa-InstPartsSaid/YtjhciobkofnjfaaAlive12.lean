/- complinelaw12.alive. -/
import Derived.Test.YtjhciobkofnjfaaOwes
import Derived.Deep.CutBlock
namespace Go.Proofs.Ytjhciobkofnjfaa
open Go.RowKit

/-- An instruction of which only four numbers are set. -/
def zrow (qty am done paid : Int) : List Value :=
  [.int .i64 0, .string ⟨#[]⟩, .string ⟨#[]⟩, .string ⟨#[]⟩, .string ⟨#[]⟩, .bool false, .string ⟨#[]⟩, .string ⟨#[]⟩, .string ⟨#[]⟩, .int .i64 qty, .int .i64 am, .int .i64 0, .int .i64 0, .int .i64 0, .bool false, .bool false, .bool false, .int .i64 0, .int .i64 0, .int .i64 done, .int .i64 paid]
theorem zrow_is (qty am done paid : Int) : InstN (zrow qty am done paid) qty am done paid := ⟨rfl, rfl, rfl, rfl, rfl⟩

theorem zrow_one (qty am done paid : Int) : ∀ v ∈ zrow qty am done paid, v.oneCell' = true := by
  intro v hv
  simp only [zrow, List.mem_cons, List.not_mem_nil, or_false] at hv
  rcases hv with h | h | h | h | h | h | h | h | h | h | h | h | h | h | h | h | h | h | h | h | h <;> (rw [h]; rfl)
theorem there_new (W : World) (Z : Array Value) (hz : Z.size = 21) : (W.alloc (.cells Z 72)).there W.heap.size 0 21 := by
  intro j hj
  rw [Nat.zero_add]
  refine ⟨?_, blk_frozen (blk_new W _) j⟩
  rw [blk_cell (blk_new W _) j]
  simp [hz, hj]
theorem only_setCells (g : Nat) : ∀ (vs : List Value) (o : Nat) (w w1 : World), Only (fun k => k = g) w w1 → Only (fun k => k = g) w (w1.setCells g o vs)
  | [], _, _, _, h => h
  | v :: r, o, w, _, h => only_setCells g r (o + 1) w _ (h.setCell (p := ⟨g, o, none⟩) (.inl rfl) v)
/-- A whole instruction is laid down. -/
theorem wp_store_inst {ops : Array Oper} {rest : List Oper} {o : Oper} {a : Act} {w : World} {Q : Exit → Act → World → Prop} (hgd : o.guard = none) (x y : Operand) (ho : o.op = .store 72 x y)
    (g : Nat) (hx : a.eval x = .pointer (some ⟨g, 0, none⟩)) (X : List Value) (hy : a.eval y = .agg X.toArray) (hl : X.length = 21) (h1 : ∀ v ∈ X, v.oneCell' = true) (ht : w.there g 0 21)
    (h : ∀ w1, w1.rangeAt g 0 X → w1.there g 0 21 → Only (fun k => k = g) w w1 → wpList Try.prog ops Q rest (a.put o.dst undef) w1) : wpList Try.prog ops Q (o :: rest) a w := by
  have hs : X.toArray.size = 21 := by simp [hl]
  refine wpList_store_mid (P := Try.prog) hgd 72 x y ho g 0 X.toArray hx hy (by rw [hs]; exact ht) (by rw [info72, hs]) (all_oneCell_toArray h1) (h _ ?_ ?_ ?_)
  · exact World.rangeAt_setCells_same w g 0 X (by rw [hl]; exact ht)
  · exact World.there_setCells ht g 0 _
  · exact only_setCells g _ 0 w w (Only.refl _ _)
theorem range_at {w : World} {g : Nat} {X : List Value} (h : w.rangeAt g 0 X) : ∀ (j : Nat) (v : Value), X[j]? = some v → w.cell? ⟨g, j, none⟩ = some v := fun j v hv => by
  have := h j v hv
  rwa [Nat.zero_add] at this
theorem range_below {w w1 : World} {g : Nat} {X : List Value} {B : Nat} (h : w.rangeAt g 0 X) (hb : Below B w w1) (hg : g < B) : w1.rangeAt g 0 X := fun j v hv => (hb.cell (p := ⟨g, 0 + j, none⟩) hg).trans (h j v hv)

set_option maxHeartbeats 800000 in
set_option maxRecDepth 100000 in
theorem alive12 (w : World) : Calls Try.prog 42 #[] w fun r w' => r = .returned (.bool true) ∧ Below w.heap.size w w' := by
  go_enter Try.func42, Try.ntmps42
  go_wp2_with (guard_target =~ wpList _ _ _ (Oper.mk _ (Op.store 72 _ _) _ _ _ _ :: _) _ _; refine wp_store_inst rfl _ _ rfl w.heap.size rfl (zrow 3 100 1 33) rfl rfl (zrow_one _ _ _ _) (there_new _ _ rfl) ?_)
  intro W1 hr1 ht1 ho1
  clear ht1
  have hb1 : Below w.heap.size w W1 := ((Only.refl (fun k => k = w.heap.size) w).alloc _ |>.trans ho1 (fun i hi => .inl hi)).toBelow (Nat.le_refl _) (fun i hi => by omega)
  have hg1 : w.heap.size < W1.heap.size := Nat.lt_of_lt_of_le (by simp) ho1.size
  have hn := zrow_is 3 100 1 33
  generalize zrow 3 100 1 33 = X at hr1 hn
  have HN := hide hn
  have R1 := hide hr1
  have B1 := hide hb1
  clear hr1 hb1 ho1 hn
  go_wp2_with (guard_target =~ wpList _ _ _ (Oper.mk _ (Op.load 72 _) _ _ _ _ :: _) _ _; refine wp_load_inst (by rfl) _ rfl w.heap.size rfl X HN.out.len (range_at R1.out) ?_)
  refine (owes_inst X 3 100 1 33 1 W1 HN.out (by unfold bd; decide) (by unfold bd; decide) (by unfold bd; decide)).mono ?_
  rintro r W2 ⟨rfl, hb2⟩
  rw [show owesP 3 100 1 33 1 = ((33 : Int), (0 : Int)) by decide +kernel]
  dsimp only
  have R2 := hide (range_below R1.out hb2 hg1)
  have B2 := hide (B1.out.trans (hb2.mono B1.out.size))
  have hg2 : w.heap.size < W2.heap.size := Nat.lt_of_lt_of_le hg1 hb2.size
  clear hb2 R1 B1 hg1
  go_wp2_with (guard_target =~ wpList _ _ _ (Oper.mk _ (Op.load 72 _) _ _ _ _ :: _) _ _; refine wp_load_inst (by rfl) _ rfl w.heap.size rfl X HN.out.len (range_at R2.out) ?_)
  refine (owes_inst X 3 100 1 33 2 W2 HN.out (by unfold bd; decide) (by unfold bd; decide) (by unfold bd; decide)).mono ?_
  rintro r W3 ⟨rfl, hb3⟩
  rw [show owesP 3 100 1 33 2 = ((67 : Int), (0 : Int)) by decide +kernel]
  dsimp only
  have R3 := hide (range_below R2.out hb3 hg2)
  have B3 := hide (B2.out.trans (hb3.mono B2.out.size))
  clear hb3 R2 B2 hg2
  go_wp2_with (guard_target =~ wpList _ _ _ (Oper.mk _ (Op.load 72 _) _ _ _ _ :: _) _ _; refine wp_load_inst (by rfl) _ rfl w.heap.size rfl X HN.out.len (range_at R3.out) ?_)
  refine (left_inst X 3 100 1 33 W3 HN.out (by decide)).mono ?_
  rintro r W4 ⟨rfl, hb4⟩
  rw [show leftP 3 1 = 2 by decide +kernel]
  have B4 := hide (B3.out.trans (hb4.mono B3.out.size))
  clear hb4 R3 B3
  go_wp2_with fail
  go_ret
  exact ⟨rfl, B4.out⟩
end Go.Proofs.Ytjhciobkofnjfaa
