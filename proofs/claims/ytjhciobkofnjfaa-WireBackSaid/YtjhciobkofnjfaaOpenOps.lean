/- A slice of complinelaw3.Op that came in. -/
import Derived.Test.YtjhciobkofnjfaaOpenL
import Derived.Test.YtjhciobkofnjfaaOpen
import Derived.Test.YtjhciobkofnjfaaBool
namespace Go.Proofs.Ytjhciobkofnjfaa
open Go.ChangeShapes Go.WideShapes Go.ChangeAt Go.RowKit Go.Deep

structure OpD where
  kind : Int
  N : List Int
  T : List ByteArray
  B : List Bool
def isInt (cs : List Value) (x : Int) : Prop := cs = [.int .i64 x] ∧ bd x
def isStr (cs : List Value) (x : ByteArray) : Prop := cs = [.string x] ∧ x.size ≤ maxLen
def isBool (cs : List Value) (x : Bool) : Prop := cs = [.bool x] ∧ True
/-- The four cells of an Op, and what they lead to. -/
def isOp (w : World) (cs : List Value) (x : OpD) : Prop :=
  ∃ (AN AT AB : Option Addr) (nN cN nT cT nB cB : Nat), cs = [.int .i64 x.kind, .slice AN nN cN, .slice AT nT cT, .slice AB nB cB] ∧ bd x.kind ∧
    SliceOf w 1 isInt AN nN cN x.N ∧ SliceOf w 1 isStr AT nT cT x.T ∧ SliceOf w 1 isBool AB nB cB x.B

theorem cells_op : Try.prog.cellsOf 54 = 4 := by kernel_rfl
theorem cells_string : Try.prog.cellsOf 9 = 1 := by kernel_rfl
theorem cells_bool : Try.prog.cellsOf 4 = 1 := by kernel_rfl
theorem cells_sl : Try.prog.cellsOf 50 = 1 ∧ Try.prog.cellsOf 51 = 1 ∧ Try.prog.cellsOf 52 = 1 := ⟨by kernel_rfl, by kernel_rfl, by kernel_rfl⟩

section
variable {H : Type} {enc : TypeId × Value → H} {W : World}
theorem el_int (n : Nat) (cs : List Value) (y : DataW H × List MemPlace) (_h : cs.length = 1) (h : DataW.trod enc Try.prog W 0 (fun _ => true) true n 3 cs = some y) : ∃ a, isInt cs a := by
  obtain ⟨x, hcs, _, hw⟩ := DataW.trod_int Try.underlying3 h
  exact ⟨x, hcs, bd_of_wf hw⟩
theorem el_str (n : Nat) (cs : List Value) (y : DataW H × List MemPlace) (_h : cs.length = 1) (h : DataW.trod enc Try.prog W 0 (fun _ => true) true n 9 cs = some y) : ∃ a, isStr cs a := by
  obtain ⟨x, hcs, _, hw⟩ := DataW.trod_string Try.underlying9 h
  exact ⟨x, hcs, hw⟩
theorem el_bool (n : Nat) (cs : List Value) (y : DataW H × List MemPlace) (_h : cs.length = 1) (h : DataW.trod enc Try.prog W 0 (fun _ => true) true n 4 cs = some y) : ∃ a, isBool cs a := by
  obtain ⟨x, hcs, _⟩ := DataW.trod_bool Try.underlying4 h
  exact ⟨x, hcs, trivial⟩
theorem el_op (n : Nat) (cs : List Value) (y : DataW H × List MemPlace) (hl : cs.length = 4) (h : DataW.trod enc Try.prog W 0 (fun _ => true) true n 54 cs = some y) : ∃ a, isOp W cs a := by
  match cs, hl with
  | [c0, c1, c2, c3], _ =>
    obtain ⟨ys, m, _, _, _, hyl, hf⟩ := DataW.trod_struct Try.underlying54 h
    have f0 : DataW.trod enc Try.prog W 0 (fun _ => true) true m 3 (([c0, c1, c2, c3].drop 0).take (Try.prog.cellsOf 3)) = ys[0]? := hf 0 _ rfl
    have f1 : DataW.trod enc Try.prog W 0 (fun _ => true) true m 50 (([c0, c1, c2, c3].drop 1).take (Try.prog.cellsOf 50)) = ys[1]? := hf 1 _ rfl
    have f2 : DataW.trod enc Try.prog W 0 (fun _ => true) true m 51 (([c0, c1, c2, c3].drop 2).take (Try.prog.cellsOf 51)) = ys[2]? := hf 2 _ rfl
    have f3 : DataW.trod enc Try.prog W 0 (fun _ => true) true m 52 (([c0, c1, c2, c3].drop 3).take (Try.prog.cellsOf 52)) = ys[3]? := hf 3 _ rfl
    rw [cells_int] at f0
    rw [cells_sl.1] at f1
    rw [cells_sl.2.1] at f2
    rw [cells_sl.2.2] at f3
    have hg : ∀ j, j < 4 → ∃ z, ys[j]? = some z := fun j hj => ⟨_, List.getElem?_eq_getElem (by rw [hyl]; exact hj)⟩
    obtain ⟨z0, h0⟩ := hg 0 (by omega)
    obtain ⟨z1, h1⟩ := hg 1 (by omega)
    obtain ⟨z2, h2⟩ := hg 2 (by omega)
    obtain ⟨z3, h3⟩ := hg 3 (by omega)
    rw [h0] at f0
    rw [h1] at f1
    rw [h2] at f2
    rw [h3] at f3
    obtain ⟨k, hk, hkb⟩ := el_int m _ _ rfl f0
    obtain ⟨A1, n1, p1, x1, e1, s1⟩ := open_list (R := isInt) Try.underlying50 cells_int (by omega) el_int f1
    obtain ⟨A2, n2, p2, x2, e2, s2⟩ := open_list (R := isStr) Try.underlying51 cells_string (by omega) el_str f2
    obtain ⟨A3, n3, p3, x3, e3, s3⟩ := open_list (R := isBool) Try.underlying52 cells_bool (by omega) el_bool f3
    refine ⟨⟨k, x1, x2, x3⟩, A1, A2, A3, n1, p1, n2, p2, n3, p3, ?_, hkb, s1, s2, s3⟩
    simp at hk e1 e2 e3
    rw [hk, e1, e2, e3]

set_option maxRecDepth 100000 in
theorem open_ops {r : Reach} {b0 : Nat} {v : Value} {d : DataW H} {p : List MemPlace} (hv : Value.okWide Try.prog W r b0 42 v) (h : DataW.Trod enc Try.prog W 0 (fun _ => true) true 42 v d p) :
    ∃ (A : Option Addr) (n c : Nat) (xs : List OpD), v = .slice A n c ∧ SliceOf W 4 (isOp W) A n c xs := by
  obtain ⟨a0, len, cap, rfl⟩ := okWide_slice Try.underlying42 hv
  obtain ⟨fuel, hf⟩ := h
  obtain ⟨A, n, c, xs, hcs, hs⟩ := open_list (R := isOp W) Try.underlying42 cells_op (by omega) el_op hf
  have : a0 = A ∧ len = n ∧ cap = c := by simpa [Value.cells] using hcs
  obtain ⟨rfl, rfl, rfl⟩ := this
  exact ⟨_, _, _, xs, rfl, hs⟩
end
end Go.Proofs.Ytjhciobkofnjfaa
