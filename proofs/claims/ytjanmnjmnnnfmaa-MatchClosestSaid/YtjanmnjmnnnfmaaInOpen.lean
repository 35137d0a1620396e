/- An instruction that came in, read as plain data. -/
import Derived.Test.YtjanmnjmnnnfmaaRow
import Derived.Test.YtjanmnjmnnnfmaaIns
import Derived.Deep.Slices
namespace Go.Proofs.Ytjanmnjmnnnfmaa
open Go.ChangeShapes Go.WideShapes Go.ChangeAt Go.RowKit

theorem c_int : Try.prog.cellsOf 3 = 1 := by kernel_rfl
theorem c_str : Try.prog.cellsOf 9 = 1 := by kernel_rfl
theorem c_bool : Try.prog.cellsOf 4 = 1 := by kernel_rfl
theorem c_inst : Try.prog.cellsOf 25 = 21 := by kernel_rfl
theorem c_term : Try.prog.cellsOf 23 = 12 := by kernel_rfl
/-- What an instruction that came in keeps to. -/
structure Fair (x : Ins) : Prop where
  id : bd x.id
  qty : bd x.qty
  am : bd x.am
  day : bd x.day
  trade : bd x.trade
  prio : bd x.prio
  state : bd x.state
  mate : bd x.mate
  done : bd x.done
  paid : bd x.paid
  party : x.party.size ≤ maxLen
  acc : x.acc.size ≤ maxLen
  money : x.money.size ≤ maxLen
  other : x.other.size ≤ maxLen
  asset : x.asset.size ≤ maxLen
  ccy : x.ccy.size ≤ maxLen
  ref : x.ref.size ≤ maxLen
theorem at_len {α : Type} {xs : List α} {n : Nat} (h : xs.length = n) (i : Nat) (hi : i < n) : ∃ z, xs[i]? = some z := ⟨_, List.getElem?_eq_getElem (by omega)⟩
section
variable {H : Type} {enc : TypeId × Value → H} {W : World} {base : Nat} {spare : Nat → Bool} {held : Bool}
theorem leaf_int {n : Nat} {cs : List Value} {o : Nat} {y : Option (DataW H × List MemPlace)} (c : Value) (hc : (cs.drop o).take 1 = [c]) (h : DataW.trod enc Try.prog W base spare held n 3 ((cs.drop o).take (Try.prog.cellsOf 3)) = y) (hy : ∃ z, y = some z) : ∃ m, c = .int .i64 m ∧ bd m := by
  rw [c_int, hc] at h
  obtain ⟨z, rfl⟩ := hy
  obtain ⟨m, e, _, w⟩ := DataW.trod_int Try.underlying3 h
  injection e with e _
  exact ⟨m, e, bd_of_wf w⟩
theorem leaf_string {n : Nat} {cs : List Value} {o : Nat} {y : Option (DataW H × List MemPlace)} (c : Value) (hc : (cs.drop o).take 1 = [c]) (h : DataW.trod enc Try.prog W base spare held n 9 ((cs.drop o).take (Try.prog.cellsOf 9)) = y) (hy : ∃ z, y = some z) : ∃ m, c = .string m ∧ m.size ≤ maxLen := by
  rw [c_str, hc] at h
  obtain ⟨z, rfl⟩ := hy
  obtain ⟨m, e, _, w⟩ := DataW.trod_string Try.underlying9 h
  injection e with e _
  exact ⟨m, e, w⟩
theorem leaf_bool {n : Nat} {cs : List Value} {o : Nat} {y : Option (DataW H × List MemPlace)} (c : Value) (hc : (cs.drop o).take 1 = [c]) (h : DataW.trod enc Try.prog W base spare held n 4 ((cs.drop o).take (Try.prog.cellsOf 4)) = y) (hy : ∃ z, y = some z) : ∃ m, c = .bool m := by
  rw [c_bool, hc] at h
  obtain ⟨z, rfl⟩ := hy
  obtain ⟨m, e, _⟩ := DataW.trod_bool Try.underlying4 h
  injection e with e _
  exact ⟨m, e⟩
set_option maxRecDepth 100000 in
theorem trod_inst {fuel : Nat} {cs : List Value} {x : DataW H × List MemPlace} (h : DataW.trod enc Try.prog W base spare held fuel 25 cs = some x) : ∃ i : Ins, cs = i.row ∧ Fair i := by
  obtain ⟨xs, n, _, _, hl, hxl, hf⟩ := DataW.trod_struct Try.underlying25 h
  change xs.length = 10 at hxl
  rw [c_inst] at hl
  match cs, hl with
  | [c0, c1, c2, c3, c4, c5, c6, c7, c8, c9, c10, c11, c12, c13, c14, c15, c16, c17, c18, c19, c20], _ =>
  obtain ⟨n0, rfl, w0⟩ := leaf_int c0 (o := 0) rfl (hf 0 _ rfl) (at_len hxl 0 (by omega))
  obtain ⟨n13, rfl, w13⟩ := leaf_int c13 (o := 13) rfl (hf 2 _ rfl) (at_len hxl 2 (by omega))
  obtain ⟨n14, rfl⟩ := leaf_bool c14 (o := 14) rfl (hf 3 _ rfl) (at_len hxl 3 (by omega))
  obtain ⟨n15, rfl⟩ := leaf_bool c15 (o := 15) rfl (hf 4 _ rfl) (at_len hxl 4 (by omega))
  obtain ⟨n16, rfl⟩ := leaf_bool c16 (o := 16) rfl (hf 5 _ rfl) (at_len hxl 5 (by omega))
  obtain ⟨n17, rfl, w17⟩ := leaf_int c17 (o := 17) rfl (hf 6 _ rfl) (at_len hxl 6 (by omega))
  obtain ⟨n18, rfl, w18⟩ := leaf_int c18 (o := 18) rfl (hf 7 _ rfl) (at_len hxl 7 (by omega))
  obtain ⟨n19, rfl, w19⟩ := leaf_int c19 (o := 19) rfl (hf 8 _ rfl) (at_len hxl 8 (by omega))
  obtain ⟨n20, rfl, w20⟩ := leaf_int c20 (o := 20) rfl (hf 9 _ rfl) (at_len hxl 9 (by omega))
  obtain ⟨z, hz⟩ := at_len hxl 1 (by omega)
  have ht := hf 1 _ rfl
  rw [hz] at ht
  change DataW.trod enc Try.prog W base spare held n 23 ((_ : List Value).take (Try.prog.cellsOf 23)) = _ at ht
  rw [c_term] at ht
  obtain ⟨ys, m, _, _, _, hyl, hg⟩ := DataW.trod_struct Try.underlying23 ht
  change ys.length = 12 at hyl
  obtain ⟨n1, rfl, w1⟩ := leaf_string c1 (o := 0) rfl (hg 0 _ rfl) (at_len hyl 0 (by omega))
  obtain ⟨n2, rfl, w2⟩ := leaf_string c2 (o := 1) rfl (hg 1 _ rfl) (at_len hyl 1 (by omega))
  obtain ⟨n3, rfl, w3⟩ := leaf_string c3 (o := 2) rfl (hg 2 _ rfl) (at_len hyl 2 (by omega))
  obtain ⟨n4, rfl, w4⟩ := leaf_string c4 (o := 3) rfl (hg 3 _ rfl) (at_len hyl 3 (by omega))
  obtain ⟨n5, rfl⟩ := leaf_bool c5 (o := 4) rfl (hg 4 _ rfl) (at_len hyl 4 (by omega))
  obtain ⟨n6, rfl, w6⟩ := leaf_string c6 (o := 5) rfl (hg 5 _ rfl) (at_len hyl 5 (by omega))
  obtain ⟨n7, rfl, w7⟩ := leaf_string c7 (o := 6) rfl (hg 6 _ rfl) (at_len hyl 6 (by omega))
  obtain ⟨n8, rfl, w8⟩ := leaf_string c8 (o := 7) rfl (hg 7 _ rfl) (at_len hyl 7 (by omega))
  obtain ⟨n9, rfl, w9⟩ := leaf_int c9 (o := 8) rfl (hg 8 _ rfl) (at_len hyl 8 (by omega))
  obtain ⟨n10, rfl, w10⟩ := leaf_int c10 (o := 9) rfl (hg 9 _ rfl) (at_len hyl 9 (by omega))
  obtain ⟨n11, rfl, w11⟩ := leaf_int c11 (o := 10) rfl (hg 10 _ rfl) (at_len hyl 10 (by omega))
  obtain ⟨n12, rfl, w12⟩ := leaf_int c12 (o := 11) rfl (hg 11 _ rfl) (at_len hyl 11 (by omega))
  exact ⟨⟨n0, n1, n2, n3, n4, n5, n6, n7, n8, n9, n10, n11, n12, n13, n14, n15, n16, n17, n18, n19, n20⟩, rfl, ⟨w0, w9, w10, w11, w12, w13, w17, w18, w19, w20, w1, w2, w3, w4, w6, w7, w8⟩⟩
set_option maxRecDepth 100000 in
/-- An instruction handed over by value. -/
theorem open_inst {r : Reach} {b0 : Nat} {v : Value} {d : DataW H} {p : List MemPlace} (hv : Value.okWide Try.prog W r b0 25 v) (h : DataW.Trod enc Try.prog W base spare held 25 v d p) : ∃ i : Ins, v = .agg i.row.toArray ∧ Fair i := by
  obtain ⟨cs, rfl, _⟩ := okWide_struct Try.underlying25 hv
  obtain ⟨fuel, hf⟩ := h
  obtain ⟨i, hi, hfair⟩ := trod_inst hf
  refine ⟨i, ?_, hfair⟩
  have : cs.toList = i.row := hi
  rw [← this]
end
end Go.Proofs.Ytjanmnjmnnnfmaa
