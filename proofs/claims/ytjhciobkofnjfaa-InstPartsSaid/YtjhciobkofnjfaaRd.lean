/- wire.Reader: what each of its calls comes to. -/
import Derived.Test.YtjhciobkofnjfaaRNum
import Derived.Test.YtjhciobkofnjfaaShelf
import Derived.Test.YtjhciobkofnjfaaBool
namespace Go.Proofs.Ytjhciobkofnjfaa
open Go.RowKit WM

theorem dec_err : ∀ (l : List UInt8) (i : Nat) (e : Int), dec i l = .err e → e = 4 ∨ e = 5 := by
  intro l
  induction l with
  | nil => intro i e h; simp [dec] at h; exact .inr h.symm
  | cons c r ih =>
    intro i e h
    simp only [dec] at h
    split at h
    · simp at h; exact .inl h.symm
    · split at h
      · cases hd : dec (i + 1) r with
        | ok n k => rw [hd] at h; simp [Got.more] at h
        | err x => rw [hd] at h; simp only [Got.more, Got.err.injEq] at h; subst h; exact ih _ _ hd
      · split at h
        · simp at h; exact .inl h.symm
        · simp at h
theorem dec_len {l : List UInt8} {n k : Nat} (h : dec 0 l = .ok n k) : k ≤ l.length := (enc_dec l 0 n k (by omega) h).1
theorem dec_bd {l : List UInt8} {n k : Nat} (h : dec 0 l = .ok n k) : n < 18446744073709551616 := by have := (enc_dec l 0 n k (by omega) h).2.2.1; simpa using this

/-- A reader of the program: its error, and the bytes that are left. -/
def RdS (B : Nat) (W : World) (g : Nat) (e : Int) (l : List UInt8) : Prop :=
  ∃ (s : ByteArray) (at_ : Nat), Rd B W g e s at_ ∧ l = s.data.toList.drop at_ ∧ s.size ≤ 140737488355328
def only1 (g : Nat) (k : Nat) : Prop := k = g

theorem RdS.only {B : Nat} {W W' : World} {g : Nat} {e : Int} {l : List UInt8} {S : Nat → Prop} (h : RdS B W g e l) (ho : Only S W W') (hs : ¬ S g) : RdS B W' g e l := by
  obtain ⟨s, at_, ⟨hB, hb, hat⟩, hl, hz⟩ := h
  exact ⟨s, at_, ⟨hB, blk_only hb ho hs, hat⟩, hl, hz⟩
theorem RdS.base {B : Nat} {W : World} {g : Nat} {e : Int} {l : List UInt8} (h : RdS B W g e l) : B ≤ g := by obtain ⟨s, at_, ⟨hB, _⟩, _⟩ := h; exact hB
theorem RdS.lt {B : Nat} {W : World} {g : Nat} {e : Int} {l : List UInt8} (h : RdS B W g e l) : g < W.heap.size := by obtain ⟨s, at_, ⟨_, hb, _⟩, _⟩ := h; exact blk_lt hb

theorem Rd.cells {B : Nat} {w : World} {g : Nat} {e : Int} {s : ByteArray} {at_ : Nat} (h : Rd B w g e s at_) :
    w.cell? ⟨g, 0, none⟩ = some (.int .i64 e) ∧ w.cell? ⟨g, 1, none⟩ = some (.string s) ∧ w.cell? ⟨g, 2, none⟩ = some (.int .i64 at_) ∧ w.frozen? ⟨g, 0, none⟩ = false ∧ w.frozen? ⟨g, 2, none⟩ = false := by
  obtain ⟨_, hb, _⟩ := h
  exact ⟨by have := blk_cell hb 0; simpa using this, by have := blk_cell hb 1; simpa using this, by have := blk_cell hb 2; simpa using this, blk_frozen hb 0, blk_frozen hb 2⟩
theorem Rd.drewN {B : Nat} {w : World} {g : Nat} {e : Int} {s : ByteArray} {at_ : Nat} (h : Rd B w g e s at_) (q : Nat) : Rd B (w.drewN q) g e s at_ := h
theorem Rd.setErr {B : Nat} {w : World} {g : Nat} {e x : Int} {s : ByteArray} {at_ : Nat} (h : Rd B w g e s at_) : Rd B (w.setCell ⟨g, 0, none⟩ (.int .i64 x)) g x s at_ := by
  obtain ⟨hB, hb, hat⟩ := h
  have := blk_set hb 0 (.int .i64 x)
  exact ⟨hB, by simpa using this, hat⟩
theorem Rd.setAt {B : Nat} {w : World} {g : Nat} {e : Int} {s : ByteArray} {at_ : Nat} (h : Rd B w g e s at_) (n : Nat) (hn : n ≤ s.size) (x : Int) (hx : x = (n : Int)) : Rd B (w.setCell ⟨g, 2, none⟩ (.int .i64 x)) g e s n := by
  obtain ⟨hB, hb, hat⟩ := h
  subst hx
  have := blk_set hb 2 (.int .i64 (n : Int))
  exact ⟨hB, by simpa using this, hn⟩

theorem off_no (g : Nat) (w : World) (h : w.cell? ⟨g, 0, none⟩ = some (.int .i64 0)) :
    Calls Try.prog 56 #[.pointer (some ⟨g, 0, none⟩)] w fun r w' => r = .returned (.bool false) ∧ w = w' := by
  go_enter Try.func56, Try.ntmps56
  go_wp2_with (go_at_call 22; refine (wrong_at _ _ _ h).mono ?_; rintro r w1 ⟨rfl, rfl⟩)
  go_ret
  exact ⟨rfl, rfl⟩
theorem off_yes (g : Nat) (e : Int) (w : World) (h : w.cell? ⟨g, 0, none⟩ = some (.int .i64 e)) (he : (e != 0) = true) :
    Calls Try.prog 56 #[.pointer (some ⟨g, 0, none⟩)] w fun r w' => r = .returned (.bool true) ∧ w = w' := by
  go_enter Try.func56, Try.ntmps56
  go_wp2_with (go_at_call 22; refine (wrong_at _ _ _ h).mono ?_; rintro r w1 ⟨rfl, rfl⟩)
  go_ret
  exact ⟨rfl, rfl⟩
theorem off_nil (w : World) :
    Calls Try.prog 56 #[.pointer none] w fun r w' => r = .returned (.bool true) ∧ w = w' := by
  go_enter Try.func56, Try.ntmps56
  go_wp2
  go_ret
  exact ⟨rfl, rfl⟩

/-- What reading a number comes to. -/
def numP (l : List UInt8) : Int × Int × List UInt8 :=
  match dec 0 l with
  | .ok n k => (uz n, 0, l.drop k)
  | .err e => (0, e, l)
def RPost (B : Nat) (w : World) (g : Nat) (v : Value) (e : Int) (l : List UInt8) (r : Ending) (w' : World) : Prop :=
  r = .returned v ∧ RdS B w' g e l ∧ Only (only1 g) w w'

theorem only_drewN (S : Nat → Prop) (w : World) (q : Nat) : Only S w (w.drewN q) := (Only.refl S w).drewN q

set_option maxRecDepth 100000 in
theorem rd_num_ok (B g : Nat) (l : List UInt8) (w : World) (h : RdS B w g 0 l) :
    Calls Try.prog 23 #[.pointer (some ⟨g, 0, none⟩)] w (RPost B w g (.int .i64 (numP l).1) (numP l).2.1 (numP l).2.2) := by
  obtain ⟨s, at_, hr, rfl, hz⟩ := h
  obtain ⟨c0, c1, c2, f0, f2⟩ := hr.cells
  have hat := hr.2.2
  have HR := hide hr
  clear hr
  go_enter Try.func23, Try.ntmps23
  go_wp2_with (go_at_call 56; refine (off_no _ _ c0).mono ?_; rintro r w1 ⟨rfl, rfl⟩)
  refine (rnum_any g s at_ w hat hz c1 c2).mono ?_
  rintro r w1 ⟨rfl, q, rfl⟩
  cases hd : dec 0 (s.data.toList.drop at_) with
  | ok n k =>
    have HD := hide hd
    clear hd
    simp only [gotV]
    go_wp2
    go_ret
    have hp : numP (s.data.toList.drop at_) = (uz n, 0, s.data.toList.drop (at_ + k)) := by simp [numP, HD.out]
    rw [hp]
    have hk := dec_len HD.out
    rw [List.length_drop, Array.length_toList] at hk
    have hk2 : at_ + k ≤ s.size := by have : s.data.size = s.size := rfl; omega
    refine ⟨rfl, ⟨s, at_ + k, ?_, rfl, hz⟩, ?_⟩
    · exact (HR.out.drewN q).setAt (at_ + k) hk2 _ (by simp)
    · exact (only_drewN (only1 g) w q).setCell (p := ⟨g, 2, none⟩) (.inl rfl) _
  | err x =>
    have hx := dec_err _ _ _ hd
    have hx0 : (x != 0) = true := by rw [bne_iff_ne]; omega
    have HD := hide hd
    clear hd hx
    simp only [gotV]
    go_wp2_with (go_at_call 33; refine (fail_set _ _ (w.drewN q) c0 f0).mono ?_; rintro r w1 ⟨rfl, rfl⟩)
    go_ret
    have hp : numP (s.data.toList.drop at_) = (0, x, s.data.toList.drop at_) := by simp [numP, HD.out]
    rw [hp]
    refine ⟨rfl, ⟨s, at_, ?_, rfl, hz⟩, ?_⟩
    · exact (HR.out.drewN q).setErr
    · exact (only_drewN (only1 g) w q).setCell (p := ⟨g, 0, none⟩) (.inl rfl) _
end Go.Proofs.Ytjhciobkofnjfaa
