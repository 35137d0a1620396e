/- Slices of instructions in memory: what they read as, behind a store, behind calls. -/
import Derived.Test.YtjanmnjmnnnfmaaIns
import Derived.Test.YtjanmnjmnnnfmaaCert
import Derived.Laws.IdiomCopy
namespace Go.Proofs.Ytjanmnjmnnnfmaa
open Go.RowKit

/-- From place off of block g on the instructions d lie, one behind the other, and may be written. -/
def InsAt (W : World) (g off : Nat) (d : List Ins) : Prop := ∀ i x, d[i]? = some x → W.rangeAt g (off + i * 21) x.row ∧ W.there g (off + i * 21) 21

theorem InsAt.nil (W : World) (g off : Nat) : InsAt W g off [] := fun i x h => by simp at h
theorem frozen_of_block {W W' : World} {p : Addr} (h : W'.heap[p.block]? = W.heap[p.block]?) : W'.frozen? p = W.frozen? p := by simp only [World.frozen?, h]
theorem there_only {S : Nat → Prop} {W W' : World} {g o n : Nat} (h : W.there g o n) (ho : Only S W W') (hs : ¬ S g) (hg : g < W.heap.size) : W'.there g o n := by
  intro j hj
  obtain ⟨h1, h2⟩ := h j hj
  have hb := ho.block g hg hs
  exact ⟨by rw [World.cell?_of_block (w := W) (a := ⟨g, o + j, none⟩) hb]; exact h1, by rw [frozen_of_block (W := W) (p := ⟨g, o + j, none⟩) hb]; exact h2⟩
theorem range_only {S : Nat → Prop} {W W' : World} {g o : Nat} {X : List Value} (h : W.rangeAt g o X) (ho : Only S W W') (hs : ¬ S g) : W'.rangeAt g o X := fun j v hv => ho.cell (p := ⟨g, o + j, none⟩) hs (h j v hv)
theorem InsAt.lt {W : World} {g off : Nat} {d : List Ins} (h : InsAt W g off d) {i : Nat} (hi : i < d.length) : g < W.heap.size := by
  have h1 := (h i _ (List.getElem?_eq_getElem hi)).1 0 _ rfl
  exact World.block_lt_of_cell? W _ h1
theorem InsAt.only {S : Nat → Prop} {W W' : World} {g off : Nat} {d : List Ins} (h : InsAt W g off d) (ho : Only S W W') (hs : ¬ S g) : InsAt W' g off d := by
  intro i x hx
  have hg := h.lt (List.getElem?_eq_some_iff.1 hx).1
  obtain ⟨h1, h2⟩ := h i x hx
  exact ⟨range_only h1 ho hs, there_only h2 ho hs hg⟩
theorem InsAt.below {W W' : World} {g off B : Nat} {d : List Ins} (h : InsAt W g off d) (hb : Below B W W') (hg : g < B) : InsAt W' g off d :=
  h.only (S := fun k => B ≤ k) ⟨hb.os, hb.tape, hb.output, hb.size, fun k _ hn => hb.block k (by omega)⟩ (by omega)
theorem Only.below {S : Nat → Prop} {W W1 W' : World} (h : Only S W W1) (hb : Below W1.heap.size W1 W') : Only S W W' :=
  h.trans (S' := fun _ => False) ⟨hb.os, hb.tape, hb.output, hb.size, fun k hk _ => hb.block k hk⟩ (fun _ h => h.elim)
theorem Only.setCells {S : Nat → Prop} {a : World} (g : Nat) (hg : S g ∨ a.heap.size ≤ g) : ∀ (vs : List Value) (o : Nat) (w : World), Only S a w → Only S a (w.setCells g o vs)
  | [], _, _, h => h
  | v :: r, o, _, h => Only.setCells g hg r (o + 1) _ (h.setCell (p := ⟨g, o, none⟩) hg v)
/-- One instruction laid over another. -/
theorem InsAt.set {W : World} {g off k : Nat} {d : List Ins} (h : InsAt W g off d) (hk : k < d.length) (y : Ins) : InsAt (W.setCells g (off + k * 21) y.row) g off (d.set k y) := by
  intro i x hx
  have hi : i < d.length := by have := (List.getElem?_eq_some_iff.1 hx).1; simpa using this
  obtain ⟨h1, h2⟩ := h i _ (List.getElem?_eq_getElem hi)
  refine ⟨?_, World.there_setCells h2 _ _ _⟩
  by_cases hik : k = i
  · subst hik
    rw [List.getElem?_set_self hk] at hx
    cases hx
    exact World.rangeAt_setCells_same W g (off + k * 21) y.row (by rw [row_len]; exact h2)
  · rw [List.getElem?_set_ne hik, List.getElem?_eq_getElem hi] at hx
    cases hx
    intro j v hv
    have hj : j < 21 := by have := (List.getElem?_eq_some_iff.1 hv).1; rw [row_len] at this; exact this
    rw [World.cell?_setCells_out g y.row (off + k * 21) W ⟨g, off + i * 21 + j, none⟩ (fun _ _ => by rw [row_len]; show off + i * 21 + j < _ ∨ _ ≤ off + i * 21 + j; omega)]
    exact h1 j v hv
theorem InsAt.at_ {W : World} {g off : Nat} {d : List Ins} (h : InsAt W g off d) {i : Nat} (hi : i < d.length) : W.rangeAt g (off + i * 21) d[i].row ∧ W.there g (off + i * 21) 21 := h i _ (List.getElem?_eq_getElem hi)
theorem InsAt.drop {W : World} {g off : Nat} {d : List Ins} (h : InsAt W g off d) (n : Nat) : InsAt W g (off + n * 21) (d.drop n) := by
  intro i x hx
  rw [List.getElem?_drop] at hx
  have := h (n + i) x hx
  rw [show off + n * 21 + i * 21 = off + (n + i) * 21 by omega]
  exact this
theorem InsAt.take {W : World} {g off : Nat} {d : List Ins} (h : InsAt W g off d) (n : Nat) : InsAt W g off (d.take n) := by
  intro i x hx
  refine h i x ?_
  rw [List.getElem?_take] at hx
  split at hx
  · exact hx
  · cases hx
theorem InsAt.prefix {W : World} {g off : Nat} {d e : List Ins} (h : InsAt W g off (d ++ e)) : InsAt W g off d := by
  have := h.take d.length
  rwa [List.take_left] at this

section
variable {ops : Array Oper} {rest : List Oper} {o : Oper} {a : Act} {w : World} {Q : Exit → Act → World → Prop}
/-- A whole instruction is read. -/
theorem wp_load_row (hw : Region.wanted o (yielded ops a.tmps) = true) (x : Operand) (ho : o.op = .load 25 x)
    (g off : Nat) (hx : a.eval x = .pointer (some ⟨g, off, none⟩)) (X : List Value) (hl : X.length = 21) (hc : w.rangeAt g off X)
    (h : wpList Try.prog ops Q rest (a.put o.dst (.agg X.toArray)) w) : wpList Try.prog ops Q (o :: rest) a w :=
  BigFrame.wpList_want hw fun _ hK => wp_load_mid (P := Try.prog) 25 x ho g off hx X _ hc Try.underlying25 rfl (by rw [info_inst, hl]) (hK _ _ h)
/-- A whole instruction is laid down. -/
theorem wp_store_row (hgd : o.guard = none) (x y : Operand) (ho : o.op = .store 25 x y)
    (g off : Nat) (hx : a.eval x = .pointer (some ⟨g, off, none⟩)) (X : List Value) (hy : a.eval y = .agg X.toArray) (hl : X.length = 21) (h1 : ∀ v ∈ X, v.oneCell' = true) (ht : w.there g off 21)
    (h : wpList Try.prog ops Q rest (a.put o.dst undef) (w.setCells g off X)) : wpList Try.prog ops Q (o :: rest) a w := by
  have hs : X.toArray.size = 21 := by simp [hl]
  exact wpList_store_mid (P := Try.prog) hgd 25 x y ho g off X.toArray hx hy (by rw [hs]; exact ht) (by rw [info_inst, hs]) (all_oneCell_toArray h1) h
end
theorem run_load_row {w : World} {g off : Nat} {X : List Value} (hl : X.length = 21) (hc : w.rangeAt g off X) : (Instr.loadAt 25 (.pointer (some ⟨g, off, none⟩))).run Try.prog w = .ok (.agg X.toArray) w :=
  run_loadAt_mid (P := Try.prog) w g off 25 X _ hc Try.underlying25 rfl (by rw [info_inst, hl])
theorem run_store_row {w : World} {g off : Nat} {X : List Value} (hl : X.length = 21) (h1 : ∀ v ∈ X, v.oneCell' = true) (ht : w.there g off 21) : (Instr.storeAt 25 (.pointer (some ⟨g, off, none⟩)) (.agg X.toArray)).run Try.prog w = .ok () (w.setCells g off X) := by
  have hs : X.toArray.size = 21 := by simp [hl]
  exact run_storeAt_mid (P := Try.prog) w g off 25 X.toArray (by rw [hs]; exact ht) (by rw [info_inst, hs]) (all_oneCell_toArray h1)

/-- A fresh block of one instruction. -/
theorem new_row (W : World) (X : List Value) (hl : X.length = 21) (e : TypeId) : (W.alloc (.cells X.toArray e)).rangeAt W.heap.size 0 X ∧ (W.alloc (.cells X.toArray e)).there W.heap.size 0 21 := by
  constructor
  · intro j v hv
    rw [Nat.zero_add, blk_cell (blk_new W _) j]
    simpa using hv
  · intro j hj
    rw [Nat.zero_add]
    refine ⟨?_, blk_frozen (blk_new W _) j⟩
    rw [blk_cell (blk_new W _) j]
    simp [hl, hj]
theorem range_zero {w : World} {g : Nat} {X : List Value} (h : w.rangeAt g 0 X) (j : Nat) (v : Value) (hv : X[j]? = some v) : w.cell? ⟨g, j, none⟩ = some v := by
  have := h j v hv
  rwa [Nat.zero_add] at this

/-- What a predicate on an instruction says, wherever it is called: it lays what it will, and turns nothing. -/
def PredOk (w0 : World) (S : Nat → Prop) (f : FuncId) (lb : Array Value) (p : Ins → Bool) (ok : Ins → Prop) : Prop :=
  ∀ (W : World) (x : Ins), ok x → Only S w0 W → Calls Try.prog f (#[.agg x.row.toArray] ++ lb) W fun r w' => r = .returned (.bool (p x)) ∧ Below W.heap.size W w'
/-- .. a comparison of two. -/
def CmpOk (w0 : World) (S : Nat → Prop) (f : FuncId) (lb : Array Value) (c : Ins → Ins → Int) (ok : Ins → Prop) : Prop :=
  ∀ (W : World) (x y : Ins), ok x → ok y → Only S w0 W → Calls Try.prog f (#[.agg x.row.toArray, .agg y.row.toArray] ++ lb) W fun r w' => r = .returned (.int .i64 (c x y)) ∧ Below W.heap.size W w'
end Go.Proofs.Ytjanmnjmnnnfmaa
