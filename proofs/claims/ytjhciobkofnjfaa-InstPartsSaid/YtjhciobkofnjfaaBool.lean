/- (*wire.Writer).Bool and Bytes. -/
import Derived.Test.YtjhciobkofnjfaaNumL
import Derived.Test.YtjhciobkofnjfaaText
namespace Go.Proofs.Ytjhciobkofnjfaa
open Go.RowKit WM

def bools (l : List Bool) : List Value := l.map Value.bool
def encB (b : Bool) : UInt8 := if b then 1 else 0

def BoolRel (B g : Nat) (o : Option Nat) (bs : List UInt8) (xs : List Bool) (w : World) (s : Value) (wr : World) : Prop :=
  ∃ (k : Nat) (o1 : Option Nat), k ≤ xs.length ∧ s = .int .i64 k ∧ Wr B wr g 0 o1 (bs ++ (xs.take k).map encB) ∧ Only (foot g o) w wr ∧ moved w o o1

set_option maxHeartbeats 400000 in
set_option maxRecDepth 100000 in
theorem bool_ok (B g : Nat) (o : Option Nat) (bs : List UInt8) (A : Option Addr) (n c : Nat) (xs : List Bool) (w : World) (h : Wr B w g 0 o bs) (hr : Reads w A n (bools xs)) (hout : 0 < n → outOf (foot g o) A)
    (hl : bs.length + n ≤ 70368744177664) (hBw : B ≤ w.heap.size) :
    Calls Try.prog 31 #[.pointer (some ⟨g, 0, none⟩), .slice A n c] w (PutPost B w g o 0 (bs ++ xs.map encB)) := by
  have hn : xs.length = n := by have := hr.1; simpa [bools] using this
  subst hn
  have HR := hide hr
  have HH := hide h
  have HO := hide hout
  clear hr h hout
  go_enter Try.func31, Try.ntmps31
  go_wp2_with fail
  go_loopw [9] (fun s wr => BoolRel B g o bs xs w s wr) (fun s _ => xs.length - (intOf s).toNat)
  case atStart => exact ⟨0, o, Nat.zero_le _, rfl, by simpa using HH.out, Only.refl _ _, moved.refl _ _⟩
  case round =>
    obtain ⟨k, o1, hk, rfl, hw, honly, hmv⟩ := hrel
    have HW0 := hide hw
    have HO1 := hide honly
    have HM := hide hmv
    clear hw honly hmv
    by_cases hlt : k < xs.length
    · obtain ⟨ad, u, hA, hu, hcell⟩ := HR.out.at_ hlt
      have hcw := HO1.out.cell (p := ad.add k) (by rw [block_of_add]; exact HO.out (by omega) ad hA) hcell
      clear hcell
      have hu2 : u = .bool (xs[k]'hlt) := by
        simp only [bools, List.getElem?_map, List.getElem?_eq_getElem hlt, Option.map_some, Option.some.injEq] at hu
        exact hu.symm
      subst hu2
      clear hu
      subst hA
      obtain ⟨x, hxk⟩ : ∃ x, x = xs[k]'hlt := ⟨_, rfl⟩
      rw [← hxk] at hcw
      have HXK := hide hxk
      clear hxk
      obtain ⟨hc0, _⟩ := HW0.out.errCell
      have hB1 : B ≤ wr.heap.size := by have := HO1.out.size; omega
      have hw2 := HW0.out
      obtain ⟨bs2, hbs2⟩ : ∃ b, b = bs ++ (xs.take k).map encB := ⟨_, rfl⟩
      rw [← hbs2] at hw2
      have HBS := hide hbs2
      have hl2 : bs2.length + 1 ≤ 140737488355328 := by
        rw [hbs2, List.length_append, List.length_map, List.length_take]
        omega
      clear hbs2
      obtain ⟨hB, v, hb, hown, ho⟩ := hw2
      obtain ⟨A2, c2, rfl⟩ := own_slice hown
      have hc1 := blk_cell hb 1
      have hf1 := blk_frozen hb 1
      simp at hc1
      have HB := hide hb
      have HW := hide hown
      have HOB := hide ho
      clear hb hown ho
      have fin : ∀ (v' : Value) (w' : World) (y : Value), y = .int .u8 (encB x).toNat → w'.ownsRow B 5 1 v' (bs2.length + 1) (bcells bs2 ++ [y]) → wr.grownBy w' (Value.slice A2 bs2.length c2).ownBlock →
          (v'.ownBlock = (Value.slice A2 bs2.length c2).ownBlock ∨ ∃ b, v'.ownBlock = some b ∧ wr.heap.size ≤ b) → BoolRel B g o bs xs w (.int .i64 ((k + 1 : Nat) : Int)) (w'.setCell ⟨g, 1, none⟩ v') := by
        intro v' w' y hy hown' hgr hwh
        rw [hy] at hown'
        have e1 : bcells bs2 ++ [Value.int IntKind.u8 (encB x).toNat] = bcells (bs ++ (xs.take (k + 1)).map encB) := by
          rw [List.take_succ_eq_append_getElem hlt, List.map_append, ← List.append_assoc, ← HBS.out, bcells_append, ← HXK.out]
          simp [bcells]
        rw [e1] at hown'
        obtain ⟨o3, p4, p5, p6⟩ := put_step HO1.out HM.out hB HB.out HW.out HOB.out hown' hgr hwh
        exact ⟨k + 1, o3, hlt, rfl, p4, p5, p6⟩
      have FIN := hide fin
      clear fin
      cases x
      · go_wp2_with (first | (at_builtin; refine wp_append_one wr rfl (.tmp 27) (.tmp 29) 45 5 rfl Try.underlying45 (.int .u8 0) 1 info5 rfl B _ _ _ (.int .u8 0) rfl rfl rfl HW.out (by omega) (by omega) (by omega) ?_) | (go_at_call 22; refine (wrong_at _ _ _ hc0).mono ?_; rintro r w1 ⟨rfl, rfl⟩))
        intro v' w' hown' hgr hwh
        obtain ⟨A', c', rfl⟩ := own_slice hown'
        obtain ⟨k1, k2⟩ := put_cell HB.out HW.out hgr
        have G := hide (FIN.out _ _ _ rfl hown' hgr hwh)
        clear hown' hgr hwh
        go_wp2
        go_roundw
        case rel => exact G.out
        case measure => simp [intOf]; omega
      · go_wp2_with (first | (at_builtin; refine wp_append_one wr rfl (.tmp 27) (.tmp 29) 45 5 rfl Try.underlying45 (.int .u8 0) 1 info5 rfl B _ _ _ (.int .u8 1) rfl rfl rfl HW.out (by omega) (by omega) (by omega) ?_) | (go_at_call 22; refine (wrong_at _ _ _ hc0).mono ?_; rintro r w1 ⟨rfl, rfl⟩))
        intro v' w' hown' hgr hwh
        obtain ⟨A', c', rfl⟩ := own_slice hown'
        obtain ⟨k1, k2⟩ := put_cell HB.out HW.out hgr
        have G := hide (FIN.out _ _ _ rfl hown' hgr hwh)
        clear hown' hgr hwh
        go_wp2
        go_roundw
        case rel => exact G.out
        case measure => simp [intOf]; omega
    · go_wp2
      go_end0
      refine ⟨rfl, o1, ?_, HO1.out, HM.out⟩
      have := HW0.out
      rwa [List.take_of_length_le (by omega)] at this

set_option maxRecDepth 100000 in
theorem bool_err (g : Nat) (e : Int) (A : Option Addr) (n c : Nat) (xs : List Bool) (w : World) (he : (e != 0) = true) (hc0 : w.cell? ⟨g, 0, none⟩ = some (.int .i64 e)) (hr : Reads w A n (bools xs)) :
    Calls Try.prog 31 #[.pointer (some ⟨g, 0, none⟩), .slice A n c] w fun r w' => r = .returned (.tuple #[]) ∧ w = w' := by
  have hn : xs.length = n := by have := hr.1; simpa [bools] using this
  subst hn
  have HR := hide hr
  clear hr
  go_enter Try.func31, Try.ntmps31
  go_wp2_with fail
  refine wp_loop_once ?_
  by_cases hlt : 0 < xs.length
  · obtain ⟨ad, u, rfl, hu, hcell⟩ := HR.out.at_ hlt
    simp only [bools, List.getElem?_map, List.getElem?_eq_getElem hlt, Option.map_some, Option.some.injEq] at hu
    subst hu
    rw [add_zero_] at hcell
    have hd : decide (0 < xs.length) = true := by simpa using hlt
    go_wp2_with (go_at_call 22; refine (wrong_at _ _ _ hc0).mono ?_; rintro r w1 ⟨rfl, rfl⟩)
    (try simp only [Exit.inBlock, Exit.then]); refine bodyPost_ret (results_none rfl _ _ _) rfl ?_
    exact ⟨rfl, rfl⟩
  · have hd : decide (0 < xs.length) = false := by rw [decide_eq_false_iff_not]; exact hlt
    go_wp2
    go_end0
    exact ⟨rfl, rfl⟩

set_option maxRecDepth 100000 in
theorem bool_nil (A : Option Addr) (n c : Nat) (xs : List Bool) (w : World) (hr : Reads w A n (bools xs)) :
    Calls Try.prog 31 #[.pointer none, .slice A n c] w fun r w' => r = .returned (.tuple #[]) ∧ w = w' := by
  have hn : xs.length = n := by have := hr.1; simpa [bools] using this
  subst hn
  have HR := hide hr
  clear hr
  go_enter Try.func31, Try.ntmps31
  go_wp2_with fail
  refine wp_loop_once ?_
  by_cases hlt : 0 < xs.length
  · obtain ⟨ad, u, rfl, hu, hcell⟩ := HR.out.at_ hlt
    simp only [bools, List.getElem?_map, List.getElem?_eq_getElem hlt, Option.map_some, Option.some.injEq] at hu
    subst hu
    rw [add_zero_] at hcell
    have hd : decide (0 < xs.length) = true := by simpa using hlt
    go_wp2
    (try simp only [Exit.inBlock, Exit.then]); refine bodyPost_ret (results_none rfl _ _ _) rfl ?_
    exact ⟨rfl, rfl⟩
  · have hd : decide (0 < xs.length) = false := by rw [decide_eq_false_iff_not]; exact hlt
    go_wp2
    go_end0
    exact ⟨rfl, rfl⟩

/-- A list of bytes as a string. -/
def bstr (l : List UInt8) : ByteArray := ⟨l.toArray⟩
theorem bstr_data (l : List UInt8) : (bstr l).data.toList = l := rfl
theorem bstr_size (l : List UInt8) : (bstr l).size = l.length := by simp [bstr, ByteArray.size]
theorem bstr_of (s : ByteArray) : bstr s.data.toList = s := rfl

/-- 'string(b)' of an owned row of bytes. -/
theorem own_string {P : Program} {w : World} {base n : Nat} {src dst e : TypeId} {v : Value} {l : List UInt8} (hs : P.underlying src = some (.slice e)) (he : P.underlying e = some (.int .u8)) (hd : P.underlying dst = some .string)
    {e' : TypeId} (h : w.ownsRow base e' 1 v n (bcells l)) : (convert src dst v).run P w = .ok (.string (bstr l)) w := by
  have hn : l.length = n := by have := h.1; rw [bcells_length] at this; omega
  rcases h.2 with ⟨rfl, h0⟩ | ⟨g, cap, cur, rfl, _, hg, _, _, _, _⟩
  · have : l = [] := List.eq_nil_of_length_eq_zero (by omega)
    subst this
    exact run_convert_bytes_nil w src e hs he 0 0 dst hd
  · have hc := h.cells (g := g) rfl
    have := run_convert_bytes_arg (P := P) w src e hs he g 0 n cap (l.map fun b => (b.toNat : Int)) (by simpa using hn) (fun i hi => by
      have h2 := hc i (.int .u8 (l[i]'(by omega)).toNat) (by simp [bcells, show i < l.length by omega])
      rw [add_plain] at h2
      rw [Nat.zero_add, h2]
      simp [show i < l.length by omega]) dst hd
    rw [this]
    congr 2
    simp [strOfNums, bstr]
    have hid : ((fun n : Int => UInt8.ofNat n.toNat) ∘ fun b : UInt8 => (b.toNat : Int)) = id := by funext b; simp
    rw [hid, List.map_id]

theorem bytes_ok (B g : Nat) (o : Option Nat) (bs : List UInt8) (w : World) (h : Wr B w g 0 o bs) :
    Calls Try.prog 18 #[.pointer (some ⟨g, 0, none⟩)] w fun r w' => r = .returned (.tuple #[.string (bstr bs), .int .i64 0]) ∧ w = w' := by
  obtain ⟨hc0, _⟩ := h.errCell
  obtain ⟨hB, v, hb, hown, _⟩ := h
  have hcv := own_string (P := Try.prog) Try.underlying45 Try.underlying5 Try.underlying9 hown
  obtain ⟨A2, c2, rfl⟩ := own_slice hown
  have hc1 := blk_cell hb 1
  simp at hc1
  clear hb hown hB
  go_enter Try.func18, Try.ntmps18
  go_wp2_with (go_at_call 22; refine (wrong_at _ _ _ hc0).mono ?_; rintro r w1 ⟨rfl, rfl⟩)
  go_ret2
  exact ⟨rfl, rfl⟩

theorem bytes_err (g : Nat) (e : Int) (w : World) (he : (e != 0) = true) (hc0 : w.cell? ⟨g, 0, none⟩ = some (.int .i64 e)) :
    Calls Try.prog 18 #[.pointer (some ⟨g, 0, none⟩)] w fun r w' => r = .returned (.tuple #[.string (bstr []), .int .i64 e]) ∧ w = w' := by
  go_enter Try.func18, Try.ntmps18
  go_wp2_with (go_at_call 22; refine (wrong_at _ _ _ hc0).mono ?_; rintro r w1 ⟨rfl, rfl⟩)
  go_ret2
  exact ⟨rfl, rfl⟩

theorem bytes_nil (w : World) :
    Calls Try.prog 18 #[.pointer none] w fun r w' => r = .returned (.tuple #[.string (bstr []), .int .i64 1]) ∧ w = w' := by
  go_enter Try.func18, Try.ntmps18
  go_wp2
  go_ret2
  exact ⟨rfl, rfl⟩
end Go.Proofs.Ytjhciobkofnjfaa
