/- (*wire.Writer).Text: texts are put one behind the other, till one is too long. -/
import Derived.Test.YtjhciobkofnjfaaNumL
namespace Go.Proofs.Ytjhciobkofnjfaa
open Go.RowKit WM

def strs (l : List ByteArray) : List Value := l.map Value.string
/-- What a text lays. -/
def encT (s : ByteArray) : List UInt8 := encI (s.size : Int) ++ s.data.toList
def putTexts : List ByteArray → Int × List UInt8 → Int × List UInt8
  | [], st => st
  | s :: r, st => if st.1 ≠ 0 then st else if 1000 < s.size then (2, st.2) else putTexts r (0, st.2 ++ encT s)

theorem drop_cons {α : Type} {l : List α} {k : Nat} (h : k < l.length) : l.drop k = l[k] :: l.drop (k + 1) := List.drop_eq_getElem_cons h
theorem encT_len {s : ByteArray} (h : s.size ≤ 1000) : (encT s).length ≤ 1010 := by
  have h1 := encI_len (v := (s.size : Int)) ⟨by omega, by omega⟩
  have h2 : s.data.toList.length = s.size := by rw [Array.length_toList]; rfl
  simp only [encT, List.length_append]
  omega

def TextRel (B g : Nat) (o : Option Nat) (bs : List UInt8) (xs : List ByteArray) (w : World) (s : Value) (wr : World) : Prop :=
  ∃ (k : Nat) (o1 : Option Nat) (bs1 : List UInt8), k ≤ xs.length ∧ s = .int .i64 k ∧ Wr B wr g 0 o1 bs1 ∧ putTexts (xs.drop k) (0, bs1) = putTexts xs (0, bs) ∧ bs1.length ≤ bs.length + 1010 * k ∧ Only (foot g o) w wr ∧ moved w o o1

/-- A row put on at 1 while the error is set or kept at 0. -/
theorem Wr.setErr {B g : Nat} {w : World} {e x : Int} {o : Option Nat} {bs : List UInt8} (h : Wr B w g e o bs) : Wr B (w.setCell ⟨g, 0, none⟩ (.int .i64 x)) g x o bs := by
  obtain ⟨hB, v, hb, hown, ho⟩ := h
  have hne := own_ne hown hb (by decide)
  have h3 := blk_set hb 0 (.int .i64 x)
  refine ⟨hB, v, by simpa using h3, ?_, ho⟩
  refine own_only hown (S := fun k => k = g) ((Only.refl (fun k => k = g) w).setCell (p := ⟨g, 0, none⟩) (.inl rfl) _) ?_
  rintro k hk rfl
  exact hne hk
theorem Wr.errCell {B g : Nat} {w : World} {e : Int} {o : Option Nat} {bs : List UInt8} (h : Wr B w g e o bs) : w.cell? ⟨g, 0, none⟩ = some (.int .i64 e) ∧ w.frozen? ⟨g, 0, none⟩ = false := by
  obtain ⟨_, v, hb, _⟩ := h
  exact ⟨by have := blk_cell hb 0; simpa using this, blk_frozen hb 0⟩

set_option maxHeartbeats 800000 in
set_option maxRecDepth 100000 in
theorem text_ok (B g : Nat) (o : Option Nat) (bs : List UInt8) (A : Option Addr) (n c : Nat) (xs : List ByteArray) (w : World) (h : Wr B w g 0 o bs) (hr : Reads w A n (strs xs)) (hout : 0 < n → outOf (foot g o) A)
    (hl : bs.length + 1010 * n ≤ 70368744177664) (hBw : B ≤ w.heap.size) :
    Calls Try.prog 19 #[.pointer (some ⟨g, 0, none⟩), .slice A n c] w (PutPost B w g o (putTexts xs (0, bs)).1 (putTexts xs (0, bs)).2) := by
  have hn : xs.length = n := by have := hr.1; simpa [strs] using this
  subst hn
  have HR := hide hr
  have HH := hide h
  have HO := hide hout
  clear hr h hout
  go_enter Try.func19, Try.ntmps19
  go_wp2_with fail
  go_loopw [8] (fun s wr => TextRel B g o bs xs w s wr) (fun s _ => xs.length - (intOf s).toNat)
  case atStart => exact ⟨0, o, bs, Nat.zero_le _, rfl, HH.out, rfl, by omega, Only.refl _ _, moved.refl _ _⟩
  case round =>
    obtain ⟨k, o1, bs1, hk, rfl, hw, heq, hbl, honly, hmv⟩ := hrel
    have HW := hide hw
    have HO1 := hide honly
    have HM := hide hmv
    have HE := hide heq
    clear hw honly hmv heq
    by_cases hlt : k < xs.length
    · obtain ⟨ad, u, hA, hu, hcell⟩ := HR.out.at_ hlt
      have hcw := HO1.out.cell (p := ad.add k) (by rw [block_of_add]; exact HO.out (by omega) ad hA) hcell
      clear hcell
      have hu2 : u = .string (xs[k]'hlt) := by
        simp only [strs, List.getElem?_map, List.getElem?_eq_getElem hlt, Option.map_some, Option.some.injEq] at hu
        exact hu.symm
      subst hu2
      clear hu
      subst hA
      obtain ⟨x, hxk⟩ : ∃ x, x = xs[k]'hlt := ⟨_, rfl⟩
      rw [← hxk] at hcw
      have HXK := hide hxk
      clear hxk
      obtain ⟨hc0, hf0⟩ := HW.out.errCell
      have hB1 : B ≤ wr.heap.size := by have := HO1.out.size; omega
      by_cases hlong : 1000 < x.size
      · have hd : decide (1000 < (x.size : Int)) = true := by rw [decide_eq_true_iff]; omega
        go_wp2_with (first | (go_at_call 22; refine (wrong_at _ _ _ hc0).mono ?_; rintro r w1 ⟨rfl, rfl⟩) | (go_at_call 33; refine (fail_set _ _ _ hc0 hf0).mono ?_; rintro r w1 ⟨rfl, rfl⟩))
        (try simp only [Exit.inBlock, Exit.then]); refine bodyPost_ret (results_none rfl _ _ _) rfl ?_
        have e1 : putTexts xs (0, bs) = (2, bs1) := by
          rw [← HE.out, drop_cons hlt, ← HXK.out]
          simp [putTexts, hlong]
        rw [e1]
        exact ⟨rfl, o1, HW.out.setErr, HO1.out.setCell (.inl (.inl rfl)) _, HM.out⟩
      · have hd : decide (1000 < (x.size : Int)) = false := by rw [decide_eq_false_iff_not]; omega
        go_wp2_with (go_at_call 22; refine (wrong_at _ _ _ hc0).mono ?_; rintro r w1 ⟨rfl, rfl⟩)
        refine (num_any B g 0 o1 bs1 _ wr HW.out (by omega) (by omega) (by omega) hB1).mono ?_
        rintro r w2 ⟨rfl, o2, hw2, p2, p3⟩
        have HP2 := hide p2
        have HP3 := hide p3
        clear p2 p3
        obtain ⟨bs2, hbs2⟩ : ∃ b, b = bs1 ++ encI (x.size : Int) := ⟨_, rfl⟩
        rw [← hbs2] at hw2
        have HBS := hide hbs2
        have hl2 : bs2.length + x.size ≤ 140737488355328 := by
          have := encI_len (v := (x.size : Int)) ⟨by omega, by omega⟩
          rw [hbs2, List.length_append]
          omega
        clear hbs2
        obtain ⟨hB, v, hb, hown, ho⟩ := hw2
        obtain ⟨A2, c2, rfl⟩ := own_slice hown
        have hc1 := blk_cell hb 1
        have hf1 := blk_frozen hb 1
        simp at hc1
        have HB := hide hb
        have HOW := hide hown
        have HOB := hide ho
        have hB2 : B ≤ w2.heap.size := by have := HP2.out.size; omega
        clear hb hown ho
        go_wp2_with (at_builtin; refine wp_append_str w2 rfl (.tmp 38) (.tmp 39) 45 9 5 rfl Try.underlying45 Try.underlying9 info5 B _ _ bs2 x rfl rfl HOW.out hB2 hl2 ?_)
        intro v' w' hown' hgr hwh
        obtain ⟨A', c', rfl⟩ := own_slice hown'
        obtain ⟨k1, k2⟩ := put_cell HB.out HOW.out hgr
        have G := hide hown'
        have G2 := hide hgr
        have G3 := hide hwh
        clear hown' hgr hwh
        go_wp2
        go_roundw
        case rel =>
          obtain ⟨o3, p4, p5, p6⟩ := put_step HP2.out HP3.out hB HB.out HOW.out HOB.out G.out G2.out G3.out
          refine ⟨k + 1, o3, _, hlt, by go_num, p4, ?_, ?_, only_next HO1.out HM.out p5, HM.out.trans p6 HO1.out.size⟩
          · rw [← HE.out, drop_cons hlt, ← HXK.out]
            simp [putTexts, hlong, encT, HBS.out]
          · have h1 := encT_len (s := x) (by omega)
            simp only [encT, List.length_append, HBS.out] at h1 ⊢
            omega
        case measure => simp [intOf]; omega
    · go_wp2
      go_end0
      have e1 : putTexts xs (0, bs) = (0, bs1) := by
        rw [← HE.out, List.drop_of_length_le (by omega)]
        rfl
      rw [e1]
      exact ⟨rfl, o1, HW.out, HO1.out, HM.out⟩

set_option maxRecDepth 100000 in
theorem text_err (g : Nat) (e : Int) (A : Option Addr) (n c : Nat) (xs : List ByteArray) (w : World) (he : (e != 0) = true) (hc0 : w.cell? ⟨g, 0, none⟩ = some (.int .i64 e)) (hr : Reads w A n (strs xs)) :
    Calls Try.prog 19 #[.pointer (some ⟨g, 0, none⟩), .slice A n c] w fun r w' => r = .returned (.tuple #[]) ∧ w = w' := by
  have hn : xs.length = n := by have := hr.1; simpa [strs] using this
  subst hn
  have HR := hide hr
  clear hr
  go_enter Try.func19, Try.ntmps19
  go_wp2_with fail
  refine wp_loop_once ?_
  by_cases hlt : 0 < xs.length
  · obtain ⟨ad, u, rfl, hu, hcell⟩ := HR.out.at_ hlt
    simp only [strs, List.getElem?_map, List.getElem?_eq_getElem hlt, Option.map_some, Option.some.injEq] at hu
    subst hu
    rw [add_zero_] at hcell
    have hd : decide (0 < xs.length) = true := by simpa using hlt
    go_wp2_with (go_at_call 22; refine (wrong_at _ _ _ hc0).mono ?_; rintro r w1 ⟨rfl, rfl⟩)
    (try simp only [Exit.inBlock, Exit.then]); refine bodyPost_ret (results_none rfl _ _ _) rfl ?_
    exact ⟨rfl, rfl⟩
  · have hd : decide (0 < xs.length) = false := by rw [decide_eq_false_iff_not]; exact hlt
    go_wp2
    go_end0
    exact ⟨rfl, rfl⟩

set_option maxRecDepth 100000 in
theorem text_nil (A : Option Addr) (n c : Nat) (xs : List ByteArray) (w : World) (hr : Reads w A n (strs xs)) :
    Calls Try.prog 19 #[.pointer none, .slice A n c] w fun r w' => r = .returned (.tuple #[]) ∧ w = w' := by
  have hn : xs.length = n := by have := hr.1; simpa [strs] using this
  subst hn
  have HR := hide hr
  clear hr
  go_enter Try.func19, Try.ntmps19
  go_wp2_with fail
  refine wp_loop_once ?_
  by_cases hlt : 0 < xs.length
  · obtain ⟨ad, u, rfl, hu, hcell⟩ := HR.out.at_ hlt
    simp only [strs, List.getElem?_map, List.getElem?_eq_getElem hlt, Option.map_some, Option.some.injEq] at hu
    subst hu
    rw [add_zero_] at hcell
    have hd : decide (0 < xs.length) = true := by simpa using hlt
    go_wp2
    (try simp only [Exit.inBlock, Exit.then]); refine bodyPost_ret (results_none rfl _ _ _) rfl ?_
    exact ⟨rfl, rfl⟩
  · have hd : decide (0 < xs.length) = false := by rw [decide_eq_false_iff_not]; exact hlt
    go_wp2
    go_end0
    exact ⟨rfl, rfl⟩
end Go.Proofs.Ytjhciobkofnjfaa
