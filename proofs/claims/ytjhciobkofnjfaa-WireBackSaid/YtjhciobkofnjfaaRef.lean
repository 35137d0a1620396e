/- (*complineref1.Writer): Num, Text, Bool, Fail, Bytes. -/
import Derived.Test.YtjhciobkofnjfaaBool
import Derived.Deep.QuietTactic
namespace Go.Proofs.Ytjhciobkofnjfaa
open Go.RowKit WM

/-- A writer of the document: its row, its error. -/
def WrR (B : Nat) (W : World) (g : Nat) (e : Int) (o : Option Nat) (bs : List UInt8) : Prop :=
  B ≤ g ∧ ∃ v, W.heap[g]? = some (.cells #[v, .int .i64 e] 47 (0, 0)) ∧ W.ownsRow B 5 1 v bs.length (bcells bs) ∧ v.ownBlock = o

theorem WrR.new (W : World) (B : Nat) (hB : B ≤ W.heap.size) : WrR B (W.alloc (.cells #[.slice none 0 0, .int .i64 0] 47)) W.heap.size 0 none [] :=
  ⟨hB, _, blk_new _ _, own_nil _ _ _ _, rfl⟩
theorem WrR.only {B : Nat} {W W' : World} {g : Nat} {e : Int} {o : Option Nat} {bs : List UInt8} {S : Nat → Prop} (h : WrR B W g e o bs) (ho : Only S W W') (hs : ∀ k, foot g o k → ¬ S k) : WrR B W' g e o bs := by
  obtain ⟨hB, v, hb, hown, rfl⟩ := h
  exact ⟨hB, v, blk_only hb ho (hs g (.inl rfl)), own_only hown ho (fun k hk => hs k (.inr hk)), rfl⟩
theorem WrR.base {B : Nat} {W : World} {g : Nat} {e : Int} {o : Option Nat} {bs : List UInt8} (h : WrR B W g e o bs) : ∀ k, foot g o k → B ≤ k := by
  obtain ⟨hB, v, hb, hown, rfl⟩ := h
  intro k hk
  rcases hk with rfl | hk
  · exact hB
  · exact own_base hown k hk
theorem WrR.lt {B : Nat} {W : World} {g : Nat} {e : Int} {o : Option Nat} {bs : List UInt8} (h : WrR B W g e o bs) : ∀ k, foot g o k → k < W.heap.size := by
  obtain ⟨hB, v, hb, hown, rfl⟩ := h
  intro k hk
  rcases hk with rfl | hk
  · exact blk_lt hb
  · exact own_lt hown k hk
theorem WrR.errCell {B g : Nat} {w : World} {e : Int} {o : Option Nat} {bs : List UInt8} (h : WrR B w g e o bs) : w.cell? ⟨g, 1, none⟩ = some (.int .i64 e) ∧ w.frozen? ⟨g, 1, none⟩ = false := by
  obtain ⟨_, v, hb, _⟩ := h
  exact ⟨by have := blk_cell hb 1; simpa using this, blk_frozen hb 1⟩
theorem WrR.setErr {B g : Nat} {w : World} {e x : Int} {o : Option Nat} {bs : List UInt8} (h : WrR B w g e o bs) : WrR B (w.setCell ⟨g, 1, none⟩ (.int .i64 x)) g x o bs := by
  obtain ⟨hB, v, hb, hown, ho⟩ := h
  have hne := own_ne hown hb (by decide)
  have h3 := blk_set hb 1 (.int .i64 x)
  refine ⟨hB, v, by simpa using h3, ?_, ho⟩
  refine own_only hown (S := fun k => k = g) ((Only.refl (fun k => k = g) w).setCell (p := ⟨g, 1, none⟩) (.inl rfl) _) ?_
  rintro k hk rfl
  exact hne hk

def PutR (B : Nat) (w : World) (g : Nat) (o : Option Nat) (e : Int) (bs : List UInt8) (w' : World) : Prop :=
  ∃ o', WrR B w' g e o' bs ∧ Only (foot g o) w w' ∧ moved w o o'
def PutRPost (B : Nat) (w : World) (g : Nat) (o : Option Nat) (e : Int) (bs : List UInt8) (r : Ending) (w' : World) : Prop :=
  r = .returned (.tuple #[]) ∧ PutR B w g o e bs w'

theorem putR_step {B g : Nat} {e : Int} {o o1 : Option Nat} {bs bs1 : List UInt8} {n : Nat} {w W W' : World} {v v' : Value}
    (hp : Only (foot g o) w W) (hm : moved w o o1) (hB : B ≤ g) (hb : W.heap[g]? = some (.cells #[v, .int .i64 e] 47 (0, 0))) (hown : W.ownsRow B 5 1 v bs.length (bcells bs)) (ho : v.ownBlock = o1)
    (hown' : W'.ownsRow B 5 1 v' n (bcells bs1)) (hg : W.grownBy W' v.ownBlock) (hv : v'.ownBlock = v.ownBlock ∨ ∃ k, v'.ownBlock = some k ∧ W.heap.size ≤ k) :
    PutR B w g o e bs1 (W'.setCell ⟨g, 0, none⟩ v') := by
  have hne := own_ne hown hb (by decide)
  have hb2 := blk_grown hb hg (fun h => hne h.symm)
  have h3 := blk_set hb2 0 v'
  have hne' := own_ne hown' hb2 (by decide)
  have hn : n = bs1.length := by have := hown'.1; rw [bcells_length] at this; omega
  subst hn
  refine ⟨v'.ownBlock, ⟨hB, v', by simpa using h3, ?_, rfl⟩, ?_, ?_⟩
  · refine own_only hown' (S := fun k => k = g) ((Only.refl (fun k => k = g) W').setCell (p := ⟨g, 0, none⟩) (.inl rfl) v') ?_
    rintro k hk rfl
    exact hne' hk
  · have a1 := hp.grown hg (fun k hk => by
      have := foot_moved hm k (g := g) (.inr (by rw [← ho]; exact hk)); exact this)
    exact a1.setCell (.inl (.inl rfl)) _
  · have hsz0 := hp.size
    rcases hv with hv | ⟨k, hv, hk⟩
    · rw [hv, ho]; exact hm
    · exact .inr ⟨k, hv, by omega⟩
theorem putR_cell {B g : Nat} {e : Int} {bs : List UInt8} {W W' : World} {v : Value}
    (hb : W.heap[g]? = some (.cells #[v, .int .i64 e] 47 (0, 0))) (hown : W.ownsRow B 5 1 v bs.length (bcells bs)) (hg : W.grownBy W' v.ownBlock) : W'.cell? ⟨g, 0, none⟩ = some v ∧ W'.frozen? ⟨g, 0, none⟩ = false := by
  have hne := own_ne hown hb (by decide)
  have hb2 := blk_grown hb hg (fun h => hne h.symm)
  exact ⟨by have := blk_cell hb2 0; simpa using this, blk_frozen hb2 0⟩

theorem rfail_set (g : Nat) (x : Int) (w : World) (h : w.cell? ⟨g, 1, none⟩ = some (.int .i64 0)) (hf : w.frozen? ⟨g, 1, none⟩ = false) :
    Calls Try.prog 34 #[.pointer (some ⟨g, 0, none⟩), .int .i64 x] w fun r w' => r = .returned (.tuple #[]) ∧ w.setCell ⟨g, 1, none⟩ (.int .i64 x) = w' := by
  go_enter Try.func34, Try.ntmps34
  go_wp2
  go_end0
  exact ⟨rfl, rfl⟩
theorem rfail_off (g : Nat) (e x : Int) (w : World) (he : (e == 0) = false) (h : w.cell? ⟨g, 1, none⟩ = some (.int .i64 e)) :
    Calls Try.prog 34 #[.pointer (some ⟨g, 0, none⟩), .int .i64 x] w fun r w' => r = .returned (.tuple #[]) ∧ w = w' := by
  go_enter Try.func34, Try.ntmps34
  go_wp2
  go_end0
  exact ⟨rfl, rfl⟩

theorem rbytes_ok (B g : Nat) (o : Option Nat) (bs : List UInt8) (w : World) (h : WrR B w g 0 o bs) :
    Calls Try.prog 35 #[.pointer (some ⟨g, 0, none⟩)] w fun r w' => r = .returned (.tuple #[.string (bstr bs), .int .i64 0]) ∧ w = w' := by
  obtain ⟨hc0, _⟩ := h.errCell
  obtain ⟨hB, v, hb, hown, _⟩ := h
  have hcv := own_string (P := Try.prog) Try.underlying45 Try.underlying5 Try.underlying9 hown
  obtain ⟨A2, c2, rfl⟩ := own_slice hown
  have hc1 := blk_cell hb 0
  simp at hc1
  clear hb hown hB
  go_enter Try.func35, Try.ntmps35
  go_wp2_with fail
  go_ret2
  exact ⟨rfl, rfl⟩
theorem rbytes_err (g : Nat) (e : Int) (w : World) (he : (e != 0) = true) (hc0 : w.cell? ⟨g, 1, none⟩ = some (.int .i64 e)) :
    Calls Try.prog 35 #[.pointer (some ⟨g, 0, none⟩)] w fun r w' => r = .returned (.tuple #[.string (bstr []), .int .i64 e]) ∧ ∃ k, w' = w.drewN k := by
  go_enter Try.func35, Try.ntmps35
  go_wp2_with fail
  go_quiet (fail)
  go_wp2_with fail
  go_ret2
  exact ⟨rfl, _, rfl⟩

theorem rnum_err (g : Nat) (e v : Int) (w : World) (he : (e != 0) = true) (hc0 : w.cell? ⟨g, 1, none⟩ = some (.int .i64 e)) :
    Calls Try.prog 26 #[.pointer (some ⟨g, 0, none⟩), .int .i64 v] w fun r w' => r = .returned (.tuple #[]) ∧ w = w' := by
  go_enter Try.func26, Try.ntmps26
  go_wp2_with fail
  (try simp only [Exit.inBlock, Exit.then]); refine bodyPost_ret (results_none rfl _ _ _) rfl ?_
  exact ⟨rfl, rfl⟩
theorem rbool_err (g : Nat) (e : Int) (v : Bool) (w : World) (he : (e != 0) = true) (hc0 : w.cell? ⟨g, 1, none⟩ = some (.int .i64 e)) :
    Calls Try.prog 32 #[.pointer (some ⟨g, 0, none⟩), .bool v] w fun r w' => r = .returned (.tuple #[]) ∧ w = w' := by
  go_enter Try.func32, Try.ntmps32
  go_wp2_with fail
  (try simp only [Exit.inBlock, Exit.then]); refine bodyPost_ret (results_none rfl _ _ _) rfl ?_
  exact ⟨rfl, rfl⟩

theorem rbool_ok (B g : Nat) (o : Option Nat) (bs : List UInt8) (x : Bool) (w : World) (h : WrR B w g 0 o bs) (hl : bs.length ≤ 70368744177664) (hBw : B ≤ w.heap.size) :
    Calls Try.prog 32 #[.pointer (some ⟨g, 0, none⟩), .bool x] w (PutRPost B w g o 0 (bs ++ [encB x])) := by
  obtain ⟨hc0, hf0⟩ := h.errCell
  obtain ⟨hB, v, hb, hown, ho⟩ := h
  obtain ⟨A2, c2, rfl⟩ := own_slice hown
  have hc1 := blk_cell hb 0
  have hf1 := blk_frozen hb 0
  simp at hc1
  have HB := hide hb
  have HW := hide hown
  have HOB := hide ho
  clear hb hown ho
  go_enter Try.func32, Try.ntmps32
  cases x
  · go_wp2_with (at_builtin; refine wp_append_one w rfl (.tmp 15) (.tmp 17) 45 5 rfl Try.underlying45 (.int .u8 0) 1 info5 rfl B _ _ _ (.int .u8 0) rfl rfl rfl HW.out (by omega) (by omega) (by omega) ?_)
    intro v' w' hown' hgr hwh
    obtain ⟨A', c', rfl⟩ := own_slice hown'
    obtain ⟨k1, k2⟩ := putR_cell HB.out HW.out hgr
    have G := hide hown'
    have G2 := hide hgr
    have G3 := hide hwh
    clear hown' hgr hwh
    go_wp2
    go_end0
    refine ⟨rfl, putR_step (Only.refl _ _) (moved.refl _ _) hB HB.out HW.out HOB.out (bs1 := bs ++ [encB false]) (n := bs.length + 1) ?_ G2.out G3.out⟩
    rw [bcells_append]
    exact G.out
  · go_wp2_with (at_builtin; refine wp_append_one w rfl (.tmp 15) (.tmp 17) 45 5 rfl Try.underlying45 (.int .u8 0) 1 info5 rfl B _ _ _ (.int .u8 1) rfl rfl rfl HW.out (by omega) (by omega) (by omega) ?_)
    intro v' w' hown' hgr hwh
    obtain ⟨A', c', rfl⟩ := own_slice hown'
    obtain ⟨k1, k2⟩ := putR_cell HB.out HW.out hgr
    have G := hide hown'
    have G2 := hide hgr
    have G3 := hide hwh
    clear hown' hgr hwh
    go_wp2
    go_end0
    refine ⟨rfl, putR_step (Only.refl _ _) (moved.refl _ _) hB HB.out HW.out HOB.out (bs1 := bs ++ [encB true]) (n := bs.length + 1) ?_ G2.out G3.out⟩
    rw [bcells_append]
    exact G.out
end Go.Proofs.Ytjhciobkofnjfaa
