/- complinelaw3.alive: a first call whose answer is fixed. -/
import Derived.Test.YtjhciobkofnjfaaRdNew
namespace Go.Proofs.Ytjhciobkofnjfaa
open Go.RowKit WM

/-- A slice that was just built. -/
theorem reads_new (W : World) (e : TypeId) (cs : Array Value) : Reads (W.alloc (.cells cs e)) (some ⟨W.heap.size, 0, none⟩) cs.size cs.toList :=
  ⟨by simp, fun _ => ⟨_, rfl, fun j u hu => by rw [add_plain, blk_cell (blk_new W _) j]; simpa using hu⟩⟩
theorem out_new {W : World} {g : Nat} {o : Option Nat} (h : ∀ k, foot g o k → k < W.heap.size) : outOf (foot g o) (some ⟨W.heap.size, 0, none⟩) := by
  rintro ad h1 h2
  cases h1
  have := h _ h2
  simp at this
theorem Wr.alloc {B : Nat} {W : World} {g : Nat} {e : Int} {o : Option Nat} {bs : List UInt8} (h : Wr B W g e o bs) (ob : Obj) : Wr B (W.alloc ob) g e o bs := h.only ((Only.refl (fun _ => False) W).alloc ob) (fun _ _ h => h)
theorem RdS.alloc {B : Nat} {W : World} {g : Nat} {e : Int} {l : List UInt8} (h : RdS B W g e l) (ob : Obj) : RdS B (W.alloc ob) g e l := h.only ((Only.refl (fun _ => False) W).alloc ob) (fun h => h)
theorem Put.unalloc {B : Nat} {W w' : World} {ob : Obj} {g : Nat} {o : Option Nat} {e : Int} {bs : List UInt8} (h : Put B (W.alloc ob) g o e bs w') : Put B W g o e bs w' := by
  obtain ⟨o', h1, h2, h3⟩ := h
  refine ⟨o', h1, ((Only.refl (foot g o) W).alloc ob).trans h2 (fun i hi => .inl hi), ?_⟩
  rcases h3 with h3 | ⟨k, h3, hk⟩
  · exact .inl h3
  · exact .inr ⟨k, h3, by simp at hk; omega⟩
theorem PutPost.unalloc {B : Nat} {W w' : World} {ob : Obj} {g : Nat} {o : Option Nat} {e : Int} {bs : List UInt8} {r : Ending} (h : PutPost B (W.alloc ob) g o e bs r w') : PutPost B W g o e bs r w' := ⟨h.1, h.2.unalloc⟩

/-- Numbers of a slice that was just built. -/
theorem numl_new (B g : Nat) (o : Option Nat) (bs : List UInt8) (xs : List Int) (cs : Array Value) (n : Nat) (W : World) (h : Wr B W g 0 o bs) (hcs : cs.toList = ints xs) (hn : cs.size = n) (hx : ∀ v ∈ xs, bd v) (hl : bs.length + 10 * n ≤ 70368744177664) (hBw : B ≤ W.heap.size) :
    Calls Try.prog 17 #[.pointer (some ⟨g, 0, none⟩), .slice (some ⟨W.heap.size, 0, none⟩) n n] (W.alloc (.cells cs 3)) (PutPost B W g o 0 (bs ++ encs xs)) := by
  subst hn
  exact (numl_ok B g o bs (some ⟨W.heap.size, 0, none⟩) cs.size cs.size xs _ (h.alloc _) (by rw [← hcs]; exact reads_new W _ cs) (fun _ => out_new h.lt) hx hl (by simp; omega)).mono fun r w' hp => hp.unalloc
theorem text_new (B g : Nat) (o : Option Nat) (bs : List UInt8) (xs : List ByteArray) (cs : Array Value) (n : Nat) (W : World) (h : Wr B W g 0 o bs) (hcs : cs.toList = strs xs) (hn : cs.size = n) (hl : bs.length + 1010 * n ≤ 70368744177664) (hBw : B ≤ W.heap.size) :
    Calls Try.prog 19 #[.pointer (some ⟨g, 0, none⟩), .slice (some ⟨W.heap.size, 0, none⟩) n n] (W.alloc (.cells cs 9)) (PutPost B W g o (putTexts xs (0, bs)).1 (putTexts xs (0, bs)).2) := by
  subst hn
  exact (text_ok B g o bs (some ⟨W.heap.size, 0, none⟩) cs.size cs.size xs _ (h.alloc _) (by rw [← hcs]; exact reads_new W _ cs) (fun _ => out_new h.lt) hl (by simp; omega)).mono fun r w' hp => hp.unalloc

theorem alive_bytes : encs [0, -1, 1, 64] = [0, 1, 2, 128, 1] := by
  have h0 : encI 0 = [0] := by unfold encI; rw [show zz 0 = 0 from rfl, enc_lt (by omega)]; rfl
  have h1 : encI (-1) = [1] := by unfold encI; rw [show zz (-1) = 1 from rfl, enc_lt (by omega)]; rfl
  have h2 : encI 1 = [2] := by unfold encI; rw [show zz 1 = 2 from rfl, enc_lt (by omega)]; rfl
  have h3 : encI 64 = [128, 1] := by unfold encI; rw [show zz 64 = 128 from rfl, enc_ge (by omega), enc_lt (by omega)]; rfl
  simp [encs, h0, h1, h2, h3]
theorem alive_text : putTexts [⟨#[65]⟩] (0, [] ++ encs [0, -1, 1, 64]) = (0, [0, 1, 2, 128, 1, 2, 65]) := by
  have h1 : encI 1 = [2] := by unfold encI; rw [show zz 1 = 2 from rfl, enc_lt (by omega)]; rfl
  rw [alive_bytes]
  have h2 : encT ⟨#[65]⟩ = [2, 65] := by
    unfold encT
    rw [show (((⟨#[65]⟩ : ByteArray).size : Nat) : Int) = 1 from rfl, h1]; rfl
  simp only [putTexts, h2]
  rfl
theorem alive_read : numP [128, 0] = (0, 4, [128, 0]) := by
  have h : dec 0 [128, 0] = .err 4 := by rfl
  simp [numP, h]

set_option maxHeartbeats 800000 in
set_option maxRecDepth 100000 in
theorem alive3 (w : World) :
    Calls Try.prog 15 #[] w fun r w' => r = .returned (.bool true) ∧ Below w.heap.size w w' := by
  go_enter Try.func15, Try.ntmps15
  go_wp2_with fail
  refine (newWriter_any w).mono ?_
  rintro r W1 ⟨rfl, hW1⟩
  have h1 := Wr.new w w.heap.size (Nat.le_refl _)
  rw [hW1] at h1
  have B1 : Below w.heap.size w W1 := by rw [← hW1]; exact (Below.refl _ _).alloc (Nat.le_refl _) _
  have H1 := hide h1
  have HB1 := hide B1
  have z1 := B1.size
  clear hW1 h1 B1
  obtain ⟨g, hg⟩ : ∃ g, g = w.heap.size := ⟨_, rfl⟩
  rw [← hg] at H1
  rw [← hg]
  have HG := hide hg
  clear hg
  go_wp2_with fail
  refine (numl_new g g none [] [0, -1, 1, 64] _ 4 W1 H1.out rfl rfl (by unfold bd; decide) (by decide) (by rw [HG.out]; exact z1)).mono ?_
  rintro r W2 ⟨rfl, o2, h2, k2, m2⟩
  have B2 : Below g W1 W2 := k2.toBelow (by rw [HG.out]; exact z1) H1.out.base
  have H2 := hide h2
  have HB2 := hide B2
  have z2 := B2.size
  clear h2 k2 m2 B2
  go_wp2_with fail
  refine (text_new g g o2 ([] ++ encs [0, -1, 1, 64]) [⟨#[65]⟩] _ 1 W2 H2.out rfl rfl (by rw [alive_bytes]; decide) (by rw [HG.out]; omega)).mono ?_
  rintro r W3 ⟨rfl, o3, h3, k3, m3⟩
  have B3 : Below g W2 W3 := k3.toBelow (by rw [HG.out]; omega) H2.out.base
  rw [alive_text] at h3
  have H3 := hide h3
  have HB3 := hide B3
  have z3 := B3.size
  clear h3 k3 m3 B3
  go_wp2_with fail
  refine (bytes_ok g g o3 _ W3 H3.out).mono ?_
  rintro r W4 ⟨rfl, rfl⟩
  go_wp2_with fail
  refine (newReader_any g ⟨#[128, 0]⟩ W3 (by decide) (by rw [HG.out]; omega)).mono ?_
  rintro r W5 ⟨q, rfl, hq, h5, b5⟩
  have H5 := hide h5
  have HB5 := hide b5
  have z5 := b5.size
  clear h5 b5
  go_wp2_with fail
  refine (rd_num_ok g q [128, 0] W5 H5.out).mono ?_
  rintro r W6 ⟨rfl, h6, k6⟩
  rw [alive_read] at h6
  rw [alive_read]
  have hc6 := (rd_errCell h6).1
  have B6 : Below g W5 W6 := k6.toBelow (by rw [HG.out]; omega) (by rintro k rfl; exact H5.out.base)
  have HB6 := hide B6
  clear h6 k6 B6
  have hs : (bstr [0, 1, 2, 128, 1, 2, 65]).toList = [0, 1, 2, 128, 1, 2, 65] := by kernel_rfl
  go_wp2_with fail
  refine (wrong_at _ _ W6 hc6).mono ?_
  rintro r W7 ⟨rfl, rfl⟩
  go_wp2_with fail
  go_ret
  refine ⟨rfl, ?_⟩
  rw [HG.out] at HB2 HB3 HB6
  exact (((HB1.out.trans HB2.out).trans HB3.out).trans (HB5.out.mono (by omega))).trans HB6.out
end Go.Proofs.Ytjhciobkofnjfaa
