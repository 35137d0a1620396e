/- Two writers side by side, and a struct of the law's own. -/
import Derived.Test.YtjhciobkofnjfaaRefNum
import Derived.Test.YtjhciobkofnjfaaStays
import Derived.Test.YtjhciobkofnjfaaFirst
import Derived.Test.YtjhciobkofnjfaaLight
namespace Go.Proofs.Ytjhciobkofnjfaa
open Go.RowKit WM

structure Two (B : Nat) (w0 W : World) (g q : Nat) (o p : Option Nat) (ew er : Int) (bw br : List UInt8) : Prop where
  wr : Wr B W g ew o bw
  rf : WrR B W q er p br
  dis : ∀ k, foot g o k → ¬ foot q p k
  blw : Below B w0 W
  b0 : B ≤ w0.heap.size
  b1 : B ≤ W.heap.size
/-- A block of the walk's own that neither writer has. -/
def Free (g q : Nat) (o p : Option Nat) (B k : Nat) : Prop := ¬ foot g o k ∧ ¬ foot q p k ∧ B ≤ k

theorem Two.stepW {B : Nat} {w0 W W' : World} {g q : Nat} {o o' p : Option Nat} {ew er ew' : Int} {bw br bw' : List UInt8} (h : Two B w0 W g q o p ew er bw br) (hw : Wr B W' g ew' o' bw') (k : Only (foot g o) W W') (m : moved W o o') :
    Two B w0 W' g q o' p ew' er bw' br := by
  refine ⟨hw, h.rf.only k (fun i hi hf => h.dis i hf hi), ?_, h.blw.trans (k.toBelow h.b1 h.wr.base), h.b0, Nat.le_trans h.b1 k.size⟩
  intro i hi hq
  rcases foot_moved m i hi with hh | hh
  · exact h.dis i hh hq
  · have := h.rf.lt i hq; omega
theorem Two.stepR {B : Nat} {w0 W W' : World} {g q : Nat} {o p p' : Option Nat} {ew er er' : Int} {bw br br' : List UInt8} (h : Two B w0 W g q o p ew er bw br) (hw : WrR B W' q er' p' br') (k : Only (foot q p) W W') (m : moved W p p') :
    Two B w0 W' g q o p' ew er' bw br' := by
  refine ⟨h.wr.only k (fun i hi hf => h.dis i hi hf), hw, ?_, h.blw.trans (k.toBelow h.b1 h.rf.base), h.b0, Nat.le_trans h.b1 k.size⟩
  intro i hi hq
  rcases foot_moved m i hq with hh | hh
  · exact h.dis i hi hh
  · have := h.wr.lt i hi; omega
theorem Two.quiet {B : Nat} {w0 W W' : World} {g q : Nat} {o p : Option Nat} {ew er : Int} {bw br : List UInt8} (h : Two B w0 W g q o p ew er bw br) (k : Below W.heap.size W W') : Two B w0 W' g q o p ew er bw br := by
  have k2 := below_only k
  refine ⟨h.wr.only k2 (fun _ _ h => h), h.rf.only k2 (fun _ _ h => h), h.dis, h.blw.trans (k.mono h.b1), h.b0, Nat.le_trans h.b1 k.size⟩
theorem Free.stepW {W : World} {g q : Nat} {o o' p : Option Nat} {B k : Nat} (h : Free g q o p B k) (m : moved W o o') (hk : k < W.heap.size) : Free g q o' p B k := by
  refine ⟨fun hf => ?_, h.2.1, h.2.2⟩
  rcases foot_moved m k hf with hh | hh
  · exact h.1 hh
  · omega
theorem Free.stepR {W : World} {g q : Nat} {o p p' : Option Nat} {B k : Nat} (h : Free g q o p B k) (m : moved W p p') (hk : k < W.heap.size) : Free g q o p' B k := by
  refine ⟨h.1, fun hf => ?_, h.2.2⟩
  rcases foot_moved m k hf with hh | hh
  · exact h.2.1 hh
  · omega

/-! Both writers' functions, whatever the error is. -/
theorem wnum_any (B g : Nat) (e : Int) (o : Option Nat) (bs : List UInt8) (A : Option Addr) (n c : Nat) (xs : List Int) (w : World) (h : Wr B w g e o bs) (hr : Reads w A n (ints xs)) (hout : 0 < n → outOf (foot g o) A)
    (hx : ∀ v ∈ xs, bd v) (hl : bs.length + 10 * n ≤ 70368744177664) (hBw : B ≤ w.heap.size) :
    Calls Try.prog 17 #[.pointer (some ⟨g, 0, none⟩), .slice A n c] w (PutPost B w g o e (if e = 0 then bs ++ encs xs else bs)) := by
  by_cases he : e = 0
  · subst he
    exact numl_ok B g o bs A n c xs w h hr hout hx hl hBw
  · refine (numl_err g e A n c xs w (by simpa using he) h.errCell.1 hr).mono ?_
    rintro r w' ⟨rfl, rfl⟩
    rw [if_neg he]
    exact ⟨rfl, o, h, Only.refl _ _, moved.refl _ _⟩
def stT (l : List ByteArray) (st : Int × List UInt8) : Int × List UInt8 := if st.1 = 0 then putTexts l st else st
theorem wtext_any (B g : Nat) (e : Int) (o : Option Nat) (bs : List UInt8) (A : Option Addr) (n c : Nat) (xs : List ByteArray) (w : World) (h : Wr B w g e o bs) (hr : Reads w A n (strs xs)) (hout : 0 < n → outOf (foot g o) A)
    (hl : bs.length + 1010 * n ≤ 70368744177664) (hBw : B ≤ w.heap.size) :
    Calls Try.prog 19 #[.pointer (some ⟨g, 0, none⟩), .slice A n c] w (PutPost B w g o (stT xs (e, bs)).1 (stT xs (e, bs)).2) := by
  by_cases he : e = 0
  · subst he
    exact text_ok B g o bs A n c xs w h hr hout hl hBw
  · refine (text_err g e A n c xs w (by simpa using he) h.errCell.1 hr).mono ?_
    rintro r w' ⟨rfl, rfl⟩
    rw [stT, if_neg he]
    exact ⟨rfl, o, h, Only.refl _ _, moved.refl _ _⟩
theorem wbool_any (B g : Nat) (e : Int) (o : Option Nat) (bs : List UInt8) (A : Option Addr) (n c : Nat) (xs : List Bool) (w : World) (h : Wr B w g e o bs) (hr : Reads w A n (bools xs)) (hout : 0 < n → outOf (foot g o) A)
    (hl : bs.length + n ≤ 70368744177664) (hBw : B ≤ w.heap.size) :
    Calls Try.prog 31 #[.pointer (some ⟨g, 0, none⟩), .slice A n c] w (PutPost B w g o e (if e = 0 then bs ++ xs.map encB else bs)) := by
  by_cases he : e = 0
  · subst he
    exact bool_ok B g o bs A n c xs w h hr hout hl hBw
  · refine (bool_err g e A n c xs w (by simpa using he) h.errCell.1 hr).mono ?_
    rintro r w' ⟨rfl, rfl⟩
    rw [if_neg he]
    exact ⟨rfl, o, h, Only.refl _ _, moved.refl _ _⟩
theorem rnum_any_ (B g : Nat) (e : Int) (o : Option Nat) (bs : List UInt8) (v : Int) (w : World) (h : WrR B w g e o bs) (hv : bd v) (hl : bs.length ≤ 70368744177664) (hBw : B ≤ w.heap.size) :
    Calls Try.prog 26 #[.pointer (some ⟨g, 0, none⟩), .int .i64 v] w (PutRPost B w g o e (if e = 0 then bs ++ encI v else bs)) := by
  by_cases he : e = 0
  · subst he
    exact rfnum_ok B g o bs v w h hv.1 hv.2 hl hBw
  · refine (rnum_err g e v w (by simpa using he) h.errCell.1).mono ?_
    rintro r w' ⟨rfl, rfl⟩
    rw [if_neg he]
    exact ⟨rfl, o, h, Only.refl _ _, moved.refl _ _⟩
def st1 (st : Int × List UInt8) (x : ByteArray) : Int × List UInt8 := if st.1 = 0 then (if 1000 < x.size then 2 else 0, if 1000 < x.size then st.2 else st.2 ++ encT x) else st
theorem rtext_any_ (B g : Nat) (e : Int) (o : Option Nat) (bs : List UInt8) (x : ByteArray) (w : World) (h : WrR B w g e o bs) (hl : bs.length + 1010 ≤ 70368744177664) (hs : x.size ≤ 70368744177664) (hBw : B ≤ w.heap.size) :
    Calls Try.prog 29 #[.pointer (some ⟨g, 0, none⟩), .string x] w (PutRPost B w g o (st1 (e, bs) x).1 (st1 (e, bs) x).2) := by
  by_cases he : e = 0
  · subst he
    exact rftext_ok B g o bs x w h hl hs hBw
  · refine (rftext_err g e x w (by rw [beq_eq_false_iff_ne]; exact he) h.errCell.1 hs).mono ?_
    rintro r w' ⟨rfl, rfl⟩
    rw [st1, if_neg he]
    exact ⟨rfl, o, h, Only.refl _ _, moved.refl _ _⟩
theorem rbool_any_ (B g : Nat) (e : Int) (o : Option Nat) (bs : List UInt8) (x : Bool) (w : World) (h : WrR B w g e o bs) (hl : bs.length ≤ 70368744177664) (hBw : B ≤ w.heap.size) :
    Calls Try.prog 32 #[.pointer (some ⟨g, 0, none⟩), .bool x] w (PutRPost B w g o e (if e = 0 then bs ++ [encB x] else bs)) := by
  by_cases he : e = 0
  · subst he
    exact rbool_ok B g o bs x w h hl hBw
  · refine (rbool_err g e x w (by simpa using he) h.errCell.1).mono ?_
    rintro r w' ⟨rfl, rfl⟩
    rw [if_neg he]
    exact ⟨rfl, o, h, Only.refl _ _, moved.refl _ _⟩
theorem rfail_any_ (B g : Nat) (e x : Int) (o : Option Nat) (bs : List UInt8) (w : World) (h : WrR B w g e o bs) :
    Calls Try.prog 34 #[.pointer (some ⟨g, 0, none⟩), .int .i64 x] w (PutRPost B w g o (firstE e x) bs) := by
  obtain ⟨c0, f0⟩ := h.errCell
  by_cases he : e = 0
  · subst he
    refine (rfail_set g x w c0 f0).mono ?_
    rintro r w' ⟨rfl, rfl⟩
    exact ⟨rfl, o, h.setErr, (Only.refl _ _).setCell (.inl (.inl rfl)) _, moved.refl _ _⟩
  · refine (rfail_off g e x w (by rw [beq_eq_false_iff_ne]; exact he) c0).mono ?_
    rintro r w' ⟨rfl, rfl⟩
    rw [firstE, if_neg he]
    exact ⟨rfl, o, h, Only.refl _ _, moved.refl _ _⟩
theorem wfail_any_ (B g : Nat) (e x : Int) (o : Option Nat) (bs : List UInt8) (w : World) (h : Wr B w g e o bs) :
    Calls Try.prog 33 #[.pointer (some ⟨g, 0, none⟩), .int .i64 x] w (PutPost B w g o (firstE e x) bs) := by
  refine (wr_fail B g e x o bs w h).mono ?_
  rintro r w' ⟨rfl, h2, h3⟩
  exact ⟨rfl, o, h2, h3.mono (fun _ hi => .inl hi), moved.refl _ _⟩
def outB (e : Int) (bs : List UInt8) : ByteArray := bstr (if e = 0 then bs else [])
theorem wbytes_any (B g : Nat) (e : Int) (o : Option Nat) (bs : List UInt8) (w : World) (h : Wr B w g e o bs) :
    Calls Try.prog 18 #[.pointer (some ⟨g, 0, none⟩)] w fun r w' => r = .returned (.tuple #[.string (outB e bs), .int .i64 e]) ∧ w = w' := by
  unfold outB
  by_cases he : e = 0
  · subst he
    exact bytes_ok B g o bs w h
  · rw [if_neg he]
    exact bytes_err g e w (by simpa using he) h.errCell.1
theorem rbytes_any (B g : Nat) (e : Int) (o : Option Nat) (bs : List UInt8) (w : World) (h : WrR B w g e o bs) :
    Calls Try.prog 35 #[.pointer (some ⟨g, 0, none⟩)] w fun r w' => r = .returned (.tuple #[.string (outB e bs), .int .i64 e]) ∧ ∃ k, w' = w.drewN k := by
  unfold outB
  by_cases he : e = 0
  · subst he
    refine (rbytes_ok B g o bs w h).mono ?_
    rintro r w' ⟨rfl, rfl⟩
    exact ⟨rfl, 0, rfl⟩
  · rw [if_neg he]
    exact rbytes_err g e w (by simpa using he) h.errCell.1

/-! What both come to. -/
theorem st1_off (xs : List ByteArray) (st : Int × List UInt8) (h : st.1 ≠ 0) : xs.foldl st1 st = st := by
  induction xs generalizing st with
  | nil => rfl
  | cons x xs ih =>
    rw [List.foldl_cons, st1, if_neg h]
    exact ih st h
theorem st1_all : ∀ (xs : List ByteArray) (st : Int × List UInt8), xs.foldl st1 st = stT xs st
  | [], st => by unfold stT; split <;> rfl
  | x :: xs, st => by
    rw [List.foldl_cons]
    by_cases h : st.1 = 0
    · rw [stT, if_pos h, putTexts, if_neg (by simpa using h)]
      by_cases hl : 1000 < x.size
      · rw [if_pos hl, st1, if_pos h, if_pos hl, if_pos hl]
        exact st1_off xs _ (by simp)
      · rw [if_neg hl, st1, if_pos h, if_neg hl, if_neg hl, st1_all xs, stT, if_pos rfl]
    · rw [stT, if_neg h]
      exact st1_off _ _ (by rw [st1, if_neg h]; exact h) |>.trans (by rw [st1, if_neg h])
theorem st1_len (st : Int × List UInt8) (x : ByteArray) : (st1 st x).2.length ≤ st.2.length + 10 + x.size := by
  unfold st1
  split
  · dsimp only
    split
    · omega
    · have h1 := encI_len (v := (x.size : Int)) ⟨by omega, by omega⟩
      have h2 : x.data.toList.length = x.size := by rw [Array.length_toList]; rfl
      simp only [encT, List.length_append]
      omega
  · omega
theorem st1s_len : ∀ (xs : List ByteArray) (st : Int × List UInt8), ((xs.foldl st1 st).2.length : Int) ≤ st.2.length + 10 * xs.length + szT xs
  | [], st => by simp [szT]
  | x :: xs, st => by
    have h1 := st1s_len xs (st1 st x)
    have h2 := st1_len st x
    rw [List.foldl_cons]
    simp only [szT, List.map_cons, List.sum_cons, List.length_cons] at h1 ⊢
    omega
end Go.Proofs.Ytjhciobkofnjfaa
