/- inst.Left and inst.Owes. -/
import Derived.Test.YtjhciobkofnjfaaMulDiv
import Derived.Test.YtjhciobkofnjfaaNumL
import Derived.Deep.MidRow
import Derived.BigFrame
namespace Go.Proofs.Ytjhciobkofnjfaa
open Go.RowKit

/-- What Left and Owes look at of an instruction. -/
structure InstN (X : List Value) (qty am done paid : Int) : Prop where
  len : X.length = 21
  q : X[9]? = some (.int .i64 qty)
  a : X[10]? = some (.int .i64 am)
  d : X[19]? = some (.int .i64 done)
  p : X[20]? = some (.int .i64 paid)
def leftP (qty done : Int) : Int := if done < 0 ∨ qty < done then 0 else qty - done
theorem info72 : (Try.prog.info? 72).map (·.size) = some 21 := by kernel_rfl

theorem row_cell (W : World) (X : List Value) (e : TypeId) (j : Nat) : (W.alloc (.cells X.toArray e)).cell? ⟨W.heap.size, j, none⟩ = X[j]? := by
  rw [blk_cell (blk_new W _) j]
  simp

set_option maxRecDepth 100000 in
theorem left_inst (X : List Value) (qty am done paid : Int) (w : World) (h : InstN X qty am done paid) (hq : qty ≤ 9223372036854775807) :
    Calls Try.prog 43 #[.agg X.toArray] w fun r w' => r = .returned (.int .i64 (leftP qty done)) ∧ Below w.heap.size w w' := by
  have c1 : (w.alloc (.cells X.toArray 72)).cell? ⟨w.heap.size, 19, none⟩ = some (.int .i64 done) := (row_cell w X _ 19).trans h.d
  have c2 : (w.alloc (.cells X.toArray 72)).cell? ⟨w.heap.size, 9, none⟩ = some (.int .i64 qty) := (row_cell w X _ 9).trans h.q
  have q9 := h.q
  have q19 := h.d
  clear h
  go_enter Try.func43, Try.ntmps43
  by_cases h1 : done < 0
  · have d1 : decide (done < 0) = true := by rw [decide_eq_true_iff]; exact h1
    go_wp2_with fail
    go_ret
    rw [leftP, if_pos (.inl h1)]
    exact ⟨rfl, (Below.refl _ _).alloc (Nat.le_refl _) _⟩
  have d1 : decide (done < 0) = false := by rw [decide_eq_false_iff_not]; exact h1
  by_cases h2 : qty < done
  · have d2 : decide (qty < done) = true := by rw [decide_eq_true_iff]; exact h2
    go_wp2_with fail
    go_ret
    rw [leftP, if_pos (.inr h2)]
    exact ⟨rfl, (Below.refl _ _).alloc (Nat.le_refl _) _⟩
  have d2 : decide (qty < done) = false := by rw [decide_eq_false_iff_not]; exact h2
  go_wp2_with fail
  go_ret
  rw [leftP, if_neg (by omega)]
  exact ⟨rfl, (Below.refl _ _).alloc (Nat.le_refl _) _⟩

theorem load_inst (W : World) (X : List Value) (hl : X.length = 21) (g : Nat) (hc : ∀ j v, X[j]? = some v → W.cell? ⟨g, j, none⟩ = some v) :
    (Instr.loadAt 72 (.pointer (some ⟨g, 0, none⟩))).run Try.prog W = .ok (.agg X.toArray) W :=
  run_loadAt_mid (P := Try.prog) W g 0 72 X _ (fun j v hv => by rw [Nat.zero_add]; exact hc j v hv) Try.underlying72 rfl (by rw [info72, hl])

/-- A whole instruction is read. -/
theorem wp_load_inst {ops : Array Oper} {rest : List Oper} {o : Oper} {a : Act} {w : World} {Q : Exit → Act → World → Prop} (hw : Region.wanted o (yielded ops a.tmps) = true) (x : Operand) (ho : o.op = .load 72 x)
    (g : Nat) (hx : a.eval x = .pointer (some ⟨g, 0, none⟩)) (X : List Value) (hl : X.length = 21) (hc : ∀ j v, X[j]? = some v → w.cell? ⟨g, j, none⟩ = some v)
    (h : wpList Try.prog ops Q rest (a.put o.dst (.agg X.toArray)) w) : wpList Try.prog ops Q (o :: rest) a w :=
  BigFrame.wpList_want hw fun _ hK => wp_load_mid (P := Try.prog) 72 x ho g 0 hx X _ (fun j v hv => by rw [Nat.zero_add]; exact hc j v hv) Try.underlying72 rfl (by rw [info72, hl]) (hK _ _ h)

def owesP (qty am done paid q : Int) : Int × Int :=
  if q < 0 ∨ leftP qty done < q ∨ paid < 0 then (0, 1)
  else if (shareP am (done + q) qty).2 ≠ 0 then (0, (shareP am (done + q) qty).2)
  else if (shareP am (done + q) qty).1 < paid then (0, 1) else ((shareP am (done + q) qty).1 - paid, 0)

theorem shareP_bd (a d o : Int) : 0 ≤ (shareP a d o).1 ∧ (shareP a d o).1 ≤ 1152921504606846976 := by
  unfold shareP
  split
  · simp
  · unfold mulDivP
    generalize a.toNat * d.toNat / o.toNat = z
    split
    · simp
    · simp only
      omega

set_option maxHeartbeats 800000 in
set_option maxRecDepth 100000 in
theorem owes_inst (X : List Value) (qty am done paid q : Int) (w : World) (h : InstN X qty am done paid) (hq : bd qty) (ha : bd am) (hd : bd done) :
    Calls Try.prog 40 #[.agg X.toArray, .int .i64 q] w fun r w' => r = .returned (.tuple #[.int .i64 (owesP qty am done paid q).1, .int .i64 (owesP qty am done paid q).2]) ∧ Below w.heap.size w w' := by
  have HN := hide h
  have hbw : Below w.heap.size w (w.alloc (.cells X.toArray 72)) := (Below.refl _ _).alloc (Nat.le_refl _) _
  have HBW := hide hbw
  clear h hbw
  go_enter Try.func40, Try.ntmps40
  by_cases h1 : q < 0
  · have d1 : decide (q < 0) = true := by rw [decide_eq_true_iff]; exact h1
    go_wp2_with fail
    go_ret2
    rw [owesP, if_pos (.inl h1)]
    exact ⟨rfl, HBW.out⟩
  have d1 : decide (q < 0) = false := by rw [decide_eq_false_iff_not]; exact h1
  have hrow : ∀ (j : Nat) (v : Value), X[j]? = some v → (w.alloc (.cells X.toArray 72)).cell? ⟨w.heap.size, j, none⟩ = some v := fun j v hv => (row_cell w X _ j).trans hv
  have HR := hide hrow
  clear hrow
  go_wp2_with (guard_target =~ wpList _ _ _ (Oper.mk _ (Op.load 72 _) _ _ _ _ :: _) _ _; refine wp_load_inst (by rfl) _ rfl w.heap.size rfl X HN.out.len HR.out ?_)
  refine (left_inst X qty am done paid _ HN.out hq.2).mono ?_
  rintro r W1 ⟨rfl, hb1⟩
  have hcell : ∀ (j : Nat) (v : Value), X[j]? = some v → W1.cell? ⟨w.heap.size, j, none⟩ = some v := fun j v hv => (hb1.cell (p := ⟨w.heap.size, j, none⟩) (by simp)).trans (HR.out j v hv)
  have cq := hcell 9 _ HN.out.q
  have ca := hcell 10 _ HN.out.a
  have cd := hcell 19 _ HN.out.d
  have cp := hcell 20 _ HN.out.p
  have HB1 := hide (HBW.out.trans (hb1.mono HBW.out.size))
  clear hb1 hcell HR HBW
  obtain ⟨L, hL⟩ : ∃ L, L = leftP qty done := ⟨_, rfl⟩
  rw [← hL]
  have hLd : q ≤ L → -9223372036854775808 ≤ done + q ∧ done + q ≤ 9223372036854775807 := by
    intro hqL
    have h2 := hq.2
    have h3 := hd
    unfold bd at h3
    rw [hL] at hqL
    unfold leftP at hqL
    split at hqL <;> omega
  have HLL := hide hL
  have HLD := hide hLd
  clear hL hLd
  by_cases h2 : L < q
  · have d2 : decide (L < q) = true := by rw [decide_eq_true_iff]; exact h2
    go_wp2_with fail
    go_ret2
    rw [owesP, if_pos (.inr (.inl (by rw [← HLL.out]; exact h2)))]
    exact ⟨rfl, HB1.out⟩
  have d2 : decide (L < q) = false := by rw [decide_eq_false_iff_not]; exact h2
  by_cases h3 : paid < 0
  · have d3 : decide (paid < 0) = true := by rw [decide_eq_true_iff]; exact h3
    go_wp2_with fail
    go_ret2
    rw [owesP, if_pos (.inr (.inr h3))]
    exact ⟨rfl, HB1.out⟩
  have d3 : decide (paid < 0) = false := by rw [decide_eq_false_iff_not]; exact h3
  obtain ⟨n1, n2⟩ := HLD.out (by omega)
  have hN : ¬ (q < 0 ∨ leftP qty done < q ∨ paid < 0) := by rw [← HLL.out]; omega
  have HN2 := hide hN
  clear hN
  go_wp2_with fail
  refine (share_any am (done + q) qty W1 ha.2 n2 hq.2).mono ?_
  rintro r W2 ⟨rfl, k, hw2⟩
  have HB2 := hide (HB1.out.trans ((below_drewN (Below.refl W1.heap.size W1) k).mono HB1.out.size))
  rw [← hw2] at HB2
  have cp2 : W2.cell? ⟨w.heap.size, 20, none⟩ = some (.int .i64 paid) := by rw [hw2]; exact cp
  clear hw2 cp cq ca cd HB1
  have hsb := shareP_bd am (done + q) qty
  have he : owesP qty am done paid q = if (shareP am (done + q) qty).2 ≠ 0 then (0, (shareP am (done + q) qty).2) else if (shareP am (done + q) qty).1 < paid then (0, 1) else ((shareP am (done + q) qty).1 - paid, 0) := by rw [owesP, if_neg HN2.out]
  generalize shareP am (done + q) qty = sh at hsb he ⊢
  obtain ⟨v, e⟩ := sh
  dsimp only at hsb he ⊢
  obtain ⟨v0, v1⟩ := hsb
  have HE := hide he
  clear he
  by_cases h4 : e = 0
  · have d4 : (e != 0) = false := by rw [h4]; rfl
    by_cases h5 : v < paid
    · have d5 : decide (v < paid) = true := by rw [decide_eq_true_iff]; exact h5
      have H4 := hide h4
      clear h4
      go_wp2_with fail
      go_ret2
      rw [HE.out, if_neg (by rw [H4.out]; decide), if_pos h5]
      exact ⟨rfl, HB2.out⟩
    · have d5 : decide (v < paid) = false := by rw [decide_eq_false_iff_not]; exact h5
      have H4 := hide h4
      clear h4
      go_wp2_with fail
      go_ret2
      rw [HE.out, if_neg (by rw [H4.out]; decide), if_neg (by omega)]
      exact ⟨rfl, HB2.out⟩
  · have d4 : (e != 0) = true := by rw [bne_iff_ne]; exact h4
    go_wp2_with fail
    go_ret2
    rw [HE.out, if_pos h4]
    exact ⟨rfl, HB2.out⟩
end Go.Proofs.Ytjhciobkofnjfaa
