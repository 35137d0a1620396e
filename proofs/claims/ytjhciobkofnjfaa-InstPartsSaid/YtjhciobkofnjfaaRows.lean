/-
  No cell of these rows narrows 'for every input' (looked for: loops, veiled, ifaces, maps, wideKeys, modest, calm, conditions, laid).
  DERIVED. THE GIVEN ROWS OF THIS SEAT. 12 by the template 'for every input the law returns true; each argument reads behind the call as it read before'; 0 by the template 'total and deterministic' (their statements: YtjhciobkofnjfaaTotals.lean).
  GIVEN WITH THE SEED: the statements are not yours to turn. If you find one false, say at which input.
  Laid BY PROGRAM, IN A SANDBOX (cutbox-rows.mjs): the forced cells as the released guide's own fill.sh prints them over the translation 5617e1d08ba01870… (all of the seat's roots in one cut). By AI agents, Wed Nov 11 2026. No macro, syntax, notation, axiom, sorry.
-/
import Derived.Test.YtjhciobkofnjfaaChecked
import GoSem.Claim
import GoSem.ClaimJoined
import GoSem.ClaimMapViews
import Derived.JoinedTies
import Derived.KernelRfl
namespace Go.Proofs.Ytjhciobkofnjfaa
/- THE CELL 'sum', in the pinned program and in every row, IS THE sha256 OF THE DUMP (.gsa) THAT YtjhciobkofnjfaaProg.lean LOADS. Nothing in Lean hashes anything: it is a label: what it is worth is what the hold of that sum in a sandbox is worth. -/
noncomputable def Try.pinned : Pinned := { name := "ytjhciobkofnjfaa", sum := "5617e1d08ba01870084196ec6a43bebbb087f5ebf55e6d5da50431dc0e13fa88", checked := Try.checked }
namespace Rows
def none {H : Type} : Left H := { results := [], args := [] }

/-- 'complinelaw3.WireLengths': WHATEVER THE INPUT: true; the input reads as it did. -/
def wireLengthsSpec : ChangeSpec := { name := "wireLengths", fn := fun _ => fun
  | [d1, d2] => { results := [.lit (.bool true)], args := [d1, d2] }
  | _ => none }
def wireLengthsRow : OpenClaim := { program := "ytjhciobkofnjfaa", sum := "5617e1d08ba01870084196ec6a43bebbb087f5ebf55e6d5da50431dc0e13fa88", func := "compline/complinelaw3.WireLengths", spec := "wireLengths", apart := false }
def WireLengthsSaid : Prop := wireLengthsRow.holds Try.pinned (OpenSpec.ofChange wireLengthsSpec)

/-- ITS FALSE NEIGHBOUR: 'it returns false'. Refute it at one input. -/
def wireLengthsWrong : ChangeSpec := { name := "wireLengths", fn := fun _ => fun
  | [d1, d2] => { results := [.lit (.bool false)], args := [d1, d2] }
  | _ => none }
def WireLengthsWrongFalsely : Prop := wireLengthsRow.holds Try.pinned (OpenSpec.ofChange wireLengthsWrong)

/-- 'complinelaw3.WireOneWay': WHATEVER THE INPUT: true; the input reads as it did. -/
def wireOneWaySpec : ChangeSpec := { name := "wireOneWay", fn := fun _ => fun
  | [d] => { results := [.lit (.bool true)], args := [d] }
  | _ => none }
def wireOneWayRow : OpenClaim := { program := "ytjhciobkofnjfaa", sum := "5617e1d08ba01870084196ec6a43bebbb087f5ebf55e6d5da50431dc0e13fa88", func := "compline/complinelaw3.WireOneWay", spec := "wireOneWay", apart := false }
def WireOneWaySaid : Prop := wireOneWayRow.holds Try.pinned (OpenSpec.ofChange wireOneWaySpec)

/-- ITS FALSE NEIGHBOUR: 'it returns false'. Refute it at one input. -/
def wireOneWayWrong : ChangeSpec := { name := "wireOneWay", fn := fun _ => fun
  | [d] => { results := [.lit (.bool false)], args := [d] }
  | _ => none }
def WireOneWayWrongFalsely : Prop := wireOneWayRow.holds Try.pinned (OpenSpec.ofChange wireOneWayWrong)

/-- 'complinelaw3.WireWrites': WHATEVER THE INPUT: true; the input reads as it did. -/
def wireWritesSpec : ChangeSpec := { name := "wireWrites", fn := fun _ => fun
  | [d1, d2] => { results := [.lit (.bool true)], args := [d1, d2] }
  | _ => none }
def wireWritesRow : OpenClaim := { program := "ytjhciobkofnjfaa", sum := "5617e1d08ba01870084196ec6a43bebbb087f5ebf55e6d5da50431dc0e13fa88", func := "compline/complinelaw3.WireWrites", spec := "wireWrites", apart := false }
def WireWritesSaid : Prop := wireWritesRow.holds Try.pinned (OpenSpec.ofChange wireWritesSpec)

/-- ITS FALSE NEIGHBOUR: 'it returns false'. Refute it at one input. -/
def wireWritesWrong : ChangeSpec := { name := "wireWrites", fn := fun _ => fun
  | [d1, d2] => { results := [.lit (.bool false)], args := [d1, d2] }
  | _ => none }
def WireWritesWrongFalsely : Prop := wireWritesRow.holds Try.pinned (OpenSpec.ofChange wireWritesWrong)

/-- 'complinelaw3.WireFirst': WHATEVER THE INPUT: true; the input reads as it did. -/
def wireFirstSpec : ChangeSpec := { name := "wireFirst", fn := fun _ => fun
  | [d1, d2, d3, d4] => { results := [.lit (.bool true)], args := [d1, d2, d3, d4] }
  | _ => none }
def wireFirstRow : OpenClaim := { program := "ytjhciobkofnjfaa", sum := "5617e1d08ba01870084196ec6a43bebbb087f5ebf55e6d5da50431dc0e13fa88", func := "compline/complinelaw3.WireFirst", spec := "wireFirst", apart := false }
def WireFirstSaid : Prop := wireFirstRow.holds Try.pinned (OpenSpec.ofChange wireFirstSpec)

/-- ITS FALSE NEIGHBOUR: 'it returns false'. Refute it at one input. -/
def wireFirstWrong : ChangeSpec := { name := "wireFirst", fn := fun _ => fun
  | [d1, d2, d3, d4] => { results := [.lit (.bool false)], args := [d1, d2, d3, d4] }
  | _ => none }
def WireFirstWrongFalsely : Prop := wireFirstRow.holds Try.pinned (OpenSpec.ofChange wireFirstWrong)

/-- 'complinelaw3.WireCuts': WHATEVER THE INPUT: true; the input reads as it did. -/
def wireCutsSpec : ChangeSpec := { name := "wireCuts", fn := fun _ => fun
  | [d1, d2] => { results := [.lit (.bool true)], args := [d1, d2] }
  | _ => none }
def wireCutsRow : OpenClaim := { program := "ytjhciobkofnjfaa", sum := "5617e1d08ba01870084196ec6a43bebbb087f5ebf55e6d5da50431dc0e13fa88", func := "compline/complinelaw3.WireCuts", spec := "wireCuts", apart := false }
def WireCutsSaid : Prop := wireCutsRow.holds Try.pinned (OpenSpec.ofChange wireCutsSpec)

/-- ITS FALSE NEIGHBOUR: 'it returns false'. Refute it at one input. -/
def wireCutsWrong : ChangeSpec := { name := "wireCuts", fn := fun _ => fun
  | [d1, d2] => { results := [.lit (.bool false)], args := [d1, d2] }
  | _ => none }
def WireCutsWrongFalsely : Prop := wireCutsRow.holds Try.pinned (OpenSpec.ofChange wireCutsWrong)

/-- 'complinelaw3.WireBack': WHATEVER THE INPUT: true; the input reads as it did. -/
def wireBackSpec : ChangeSpec := { name := "wireBack", fn := fun _ => fun
  | [d] => { results := [.lit (.bool true)], args := [d] }
  | _ => none }
def wireBackRow : OpenClaim := { program := "ytjhciobkofnjfaa", sum := "5617e1d08ba01870084196ec6a43bebbb087f5ebf55e6d5da50431dc0e13fa88", func := "compline/complinelaw3.WireBack", spec := "wireBack", apart := false }
def WireBackSaid : Prop := wireBackRow.holds Try.pinned (OpenSpec.ofChange wireBackSpec)

/-- ITS FALSE NEIGHBOUR: 'it returns false'. Refute it at one input. -/
def wireBackWrong : ChangeSpec := { name := "wireBack", fn := fun _ => fun
  | [d] => { results := [.lit (.bool false)], args := [d] }
  | _ => none }
def WireBackWrongFalsely : Prop := wireBackRow.holds Try.pinned (OpenSpec.ofChange wireBackWrong)

/-- 'complinelaw3.WireNone': WHATEVER THE INPUT: true; the input reads as it did. -/
def wireNoneSpec : ChangeSpec := { name := "wireNone", fn := fun _ => fun
  | [d1, d2] => { results := [.lit (.bool true)], args := [d1, d2] }
  | _ => none }
def wireNoneRow : OpenClaim := { program := "ytjhciobkofnjfaa", sum := "5617e1d08ba01870084196ec6a43bebbb087f5ebf55e6d5da50431dc0e13fa88", func := "compline/complinelaw3.WireNone", spec := "wireNone", apart := false }
def WireNoneSaid : Prop := wireNoneRow.holds Try.pinned (OpenSpec.ofChange wireNoneSpec)

/-- ITS FALSE NEIGHBOUR: 'it returns false'. Refute it at one input. -/
def wireNoneWrong : ChangeSpec := { name := "wireNone", fn := fun _ => fun
  | [d1, d2] => { results := [.lit (.bool false)], args := [d1, d2] }
  | _ => none }
def WireNoneWrongFalsely : Prop := wireNoneRow.holds Try.pinned (OpenSpec.ofChange wireNoneWrong)

/-- 'complinelaw12.InstOwes': WHATEVER THE INPUT: true; the input reads as it did. -/
def instOwesSpec : ChangeSpec := { name := "instOwes", fn := fun _ => fun
  | [d1, d2] => { results := [.lit (.bool true)], args := [d1, d2] }
  | _ => none }
def instOwesRow : OpenClaim := { program := "ytjhciobkofnjfaa", sum := "5617e1d08ba01870084196ec6a43bebbb087f5ebf55e6d5da50431dc0e13fa88", func := "compline/complinelaw12.InstOwes", spec := "instOwes", named := ["math/bits.divideError", "math/bits.overflowError"], apart := false }
def InstOwesSaid : Prop := instOwesRow.holds Try.pinned (OpenSpec.ofChange instOwesSpec)

/-- ITS FALSE NEIGHBOUR: 'it returns false'. Refute it at one input. -/
def instOwesWrong : ChangeSpec := { name := "instOwes", fn := fun _ => fun
  | [d1, d2] => { results := [.lit (.bool false)], args := [d1, d2] }
  | _ => none }
def InstOwesWrongFalsely : Prop := instOwesRow.holds Try.pinned (OpenSpec.ofChange instOwesWrong)

/-- 'complinelaw12.InstParts': WHATEVER THE INPUT: true; the input reads as it did. -/
def instPartsSpec : ChangeSpec := { name := "instParts", fn := fun _ => fun
  | [d1, d2, d3] => { results := [.lit (.bool true)], args := [d1, d2, d3] }
  | _ => none }
def instPartsRow : OpenClaim := { program := "ytjhciobkofnjfaa", sum := "5617e1d08ba01870084196ec6a43bebbb087f5ebf55e6d5da50431dc0e13fa88", func := "compline/complinelaw12.InstParts", spec := "instParts", named := ["math/bits.divideError", "math/bits.overflowError"], apart := false }
def InstPartsSaid : Prop := instPartsRow.holds Try.pinned (OpenSpec.ofChange instPartsSpec)

/-- ITS FALSE NEIGHBOUR: 'it returns false'. Refute it at one input. -/
def instPartsWrong : ChangeSpec := { name := "instParts", fn := fun _ => fun
  | [d1, d2, d3] => { results := [.lit (.bool false)], args := [d1, d2, d3] }
  | _ => none }
def InstPartsWrongFalsely : Prop := instPartsRow.holds Try.pinned (OpenSpec.ofChange instPartsWrong)

/-- 'complinelaw12.InstShares': WHATEVER THE INPUT: true; the input reads as it did. -/
def instSharesSpec : ChangeSpec := { name := "instShares", fn := fun _ => fun
  | [d1, d2, d3, d4, d5] => { results := [.lit (.bool true)], args := [d1, d2, d3, d4, d5] }
  | _ => none }
def instSharesRow : OpenClaim := { program := "ytjhciobkofnjfaa", sum := "5617e1d08ba01870084196ec6a43bebbb087f5ebf55e6d5da50431dc0e13fa88", func := "compline/complinelaw12.InstShares", spec := "instShares", named := ["math/bits.divideError", "math/bits.overflowError"], apart := false }
def InstSharesSaid : Prop := instSharesRow.holds Try.pinned (OpenSpec.ofChange instSharesSpec)

/-- ITS FALSE NEIGHBOUR: 'it returns false'. Refute it at one input. -/
def instSharesWrong : ChangeSpec := { name := "instShares", fn := fun _ => fun
  | [d1, d2, d3, d4, d5] => { results := [.lit (.bool false)], args := [d1, d2, d3, d4, d5] }
  | _ => none }
def InstSharesWrongFalsely : Prop := instSharesRow.holds Try.pinned (OpenSpec.ofChange instSharesWrong)

/-- 'complinelaw12.InstBytes': WHATEVER THE INPUT: true; the input reads as it did. -/
def instBytesSpec : ChangeSpec := { name := "instBytes", fn := fun _ => fun
  | [d1, d2] => { results := [.lit (.bool true)], args := [d1, d2] }
  | _ => none }
def instBytesRow : OpenClaim := { program := "ytjhciobkofnjfaa", sum := "5617e1d08ba01870084196ec6a43bebbb087f5ebf55e6d5da50431dc0e13fa88", func := "compline/complinelaw12.InstBytes", spec := "instBytes", named := ["math/bits.divideError", "math/bits.overflowError"], apart := false }
def InstBytesSaid : Prop := instBytesRow.holds Try.pinned (OpenSpec.ofChange instBytesSpec)

/-- ITS FALSE NEIGHBOUR: 'it returns false'. Refute it at one input. -/
def instBytesWrong : ChangeSpec := { name := "instBytes", fn := fun _ => fun
  | [d1, d2] => { results := [.lit (.bool false)], args := [d1, d2] }
  | _ => none }
def InstBytesWrongFalsely : Prop := instBytesRow.holds Try.pinned (OpenSpec.ofChange instBytesWrong)

/-- 'complinelaw12.InstBack': WHATEVER THE INPUT: true; the input reads as it did. -/
def instBackSpec : ChangeSpec := { name := "instBack", fn := fun _ => fun
  | [d] => { results := [.lit (.bool true)], args := [d] }
  | _ => none }
def instBackRow : OpenClaim := { program := "ytjhciobkofnjfaa", sum := "5617e1d08ba01870084196ec6a43bebbb087f5ebf55e6d5da50431dc0e13fa88", func := "compline/complinelaw12.InstBack", spec := "instBack", named := ["math/bits.divideError", "math/bits.overflowError"], apart := false }
def InstBackSaid : Prop := instBackRow.holds Try.pinned (OpenSpec.ofChange instBackSpec)

/-- ITS FALSE NEIGHBOUR: 'it returns false'. Refute it at one input. -/
def instBackWrong : ChangeSpec := { name := "instBack", fn := fun _ => fun
  | [d] => { results := [.lit (.bool false)], args := [d] }
  | _ => none }
def InstBackWrongFalsely : Prop := instBackRow.holds Try.pinned (OpenSpec.ofChange instBackWrong)

/- THE SECOND FORM. 'bulk': how many values and letters a reading holds, each counted each time it is reached (what is shared counts as often as it is met; a slice's spare places count too). A statement '..UptoSaid' is the law's where the arguments, and the package variables that the reading takes, are together of bulk at most 1048576: NARROWER than '..Said'. Prove '..Said' where nothing that the law and all that it calls make is longer than what came in: it says more and counts as full. Else prove '..UptoSaid'. A law counts once. -/
mutual
def uptoBulk {H : Type} : DataW H → Nat
  | .lit (.string bytes) => bytes.length + 1
  | .lit _ => 1
  | .nil => 1
  | .ptr d => uptoBulk d + 1
  | .slice elems spare => uptoBulkAll elems + uptoBulkAll spare + 1
  | .agg parts => uptoBulkAll parts + 1
  | .iface _ d => uptoBulk d + 1
  | .map entries => uptoBulkEntries entries + 1
  | .held _ => 1
def uptoBulkAll {H : Type} : List (DataW H) → Nat
  | [] => 0
  | d :: r => uptoBulk d + uptoBulkAll r
def uptoBulkEntries {H : Type} : List (Lit × DataW H) → Nat
  | [] => 0
  | x :: r => uptoBulkEntry x + uptoBulkEntries r
def uptoBulkEntry {H : Type} : Lit × DataW H → Nat
  | (.string bytes, d) => bytes.length + uptoBulk d + 1
  | (_, d) => uptoBulk d + 1
 end
def uptoSmall : (H : Type) → List (DataW H) → Bool := fun _ ds => decide (uptoBulkAll ds ≤ 1048576)
def OpenSpec.upto (s : _root_.Go.ChangeSpec) : _root_.Go.OpenSpec := { _root_.Go.OpenSpec.ofChange s with cond := some uptoSmall }

/-- 'complinelaw3.WireLengths', WHERE WHAT IT READS IS OF BULK AT MOST 1048576: true; the input reads as it did. -/
def wireLengthsUptoRow : OpenClaim := { program := "ytjhciobkofnjfaa", sum := "5617e1d08ba01870084196ec6a43bebbb087f5ebf55e6d5da50431dc0e13fa88", func := "compline/complinelaw3.WireLengths", spec := "wireLengths", apart := false, narrowed := true }
def WireLengthsUptoSaid : Prop := wireLengthsUptoRow.holds Try.pinned (OpenSpec.upto wireLengthsSpec)

/-- 'complinelaw3.WireOneWay', WHERE WHAT IT READS IS OF BULK AT MOST 1048576: true; the input reads as it did. -/
def wireOneWayUptoRow : OpenClaim := { program := "ytjhciobkofnjfaa", sum := "5617e1d08ba01870084196ec6a43bebbb087f5ebf55e6d5da50431dc0e13fa88", func := "compline/complinelaw3.WireOneWay", spec := "wireOneWay", apart := false, narrowed := true }
def WireOneWayUptoSaid : Prop := wireOneWayUptoRow.holds Try.pinned (OpenSpec.upto wireOneWaySpec)

/-- 'complinelaw3.WireWrites', WHERE WHAT IT READS IS OF BULK AT MOST 1048576: true; the input reads as it did. -/
def wireWritesUptoRow : OpenClaim := { program := "ytjhciobkofnjfaa", sum := "5617e1d08ba01870084196ec6a43bebbb087f5ebf55e6d5da50431dc0e13fa88", func := "compline/complinelaw3.WireWrites", spec := "wireWrites", apart := false, narrowed := true }
def WireWritesUptoSaid : Prop := wireWritesUptoRow.holds Try.pinned (OpenSpec.upto wireWritesSpec)

/-- 'complinelaw3.WireFirst', WHERE WHAT IT READS IS OF BULK AT MOST 1048576: true; the input reads as it did. -/
def wireFirstUptoRow : OpenClaim := { program := "ytjhciobkofnjfaa", sum := "5617e1d08ba01870084196ec6a43bebbb087f5ebf55e6d5da50431dc0e13fa88", func := "compline/complinelaw3.WireFirst", spec := "wireFirst", apart := false, narrowed := true }
def WireFirstUptoSaid : Prop := wireFirstUptoRow.holds Try.pinned (OpenSpec.upto wireFirstSpec)

/-- 'complinelaw3.WireCuts', WHERE WHAT IT READS IS OF BULK AT MOST 1048576: true; the input reads as it did. -/
def wireCutsUptoRow : OpenClaim := { program := "ytjhciobkofnjfaa", sum := "5617e1d08ba01870084196ec6a43bebbb087f5ebf55e6d5da50431dc0e13fa88", func := "compline/complinelaw3.WireCuts", spec := "wireCuts", apart := false, narrowed := true }
def WireCutsUptoSaid : Prop := wireCutsUptoRow.holds Try.pinned (OpenSpec.upto wireCutsSpec)

/-- 'complinelaw3.WireBack', WHERE WHAT IT READS IS OF BULK AT MOST 1048576: true; the input reads as it did. -/
def wireBackUptoRow : OpenClaim := { program := "ytjhciobkofnjfaa", sum := "5617e1d08ba01870084196ec6a43bebbb087f5ebf55e6d5da50431dc0e13fa88", func := "compline/complinelaw3.WireBack", spec := "wireBack", apart := false, narrowed := true }
def WireBackUptoSaid : Prop := wireBackUptoRow.holds Try.pinned (OpenSpec.upto wireBackSpec)

/-- 'complinelaw3.WireNone', WHERE WHAT IT READS IS OF BULK AT MOST 1048576: true; the input reads as it did. -/
def wireNoneUptoRow : OpenClaim := { program := "ytjhciobkofnjfaa", sum := "5617e1d08ba01870084196ec6a43bebbb087f5ebf55e6d5da50431dc0e13fa88", func := "compline/complinelaw3.WireNone", spec := "wireNone", apart := false, narrowed := true }
def WireNoneUptoSaid : Prop := wireNoneUptoRow.holds Try.pinned (OpenSpec.upto wireNoneSpec)

/-- 'complinelaw12.InstOwes', WHERE WHAT IT READS IS OF BULK AT MOST 1048576: true; the input reads as it did. -/
def instOwesUptoRow : OpenClaim := { program := "ytjhciobkofnjfaa", sum := "5617e1d08ba01870084196ec6a43bebbb087f5ebf55e6d5da50431dc0e13fa88", func := "compline/complinelaw12.InstOwes", spec := "instOwes", named := ["math/bits.divideError", "math/bits.overflowError"], apart := false, narrowed := true }
def InstOwesUptoSaid : Prop := instOwesUptoRow.holds Try.pinned (OpenSpec.upto instOwesSpec)

/-- 'complinelaw12.InstParts', WHERE WHAT IT READS IS OF BULK AT MOST 1048576: true; the input reads as it did. -/
def instPartsUptoRow : OpenClaim := { program := "ytjhciobkofnjfaa", sum := "5617e1d08ba01870084196ec6a43bebbb087f5ebf55e6d5da50431dc0e13fa88", func := "compline/complinelaw12.InstParts", spec := "instParts", named := ["math/bits.divideError", "math/bits.overflowError"], apart := false, narrowed := true }
def InstPartsUptoSaid : Prop := instPartsUptoRow.holds Try.pinned (OpenSpec.upto instPartsSpec)

/-- 'complinelaw12.InstShares', WHERE WHAT IT READS IS OF BULK AT MOST 1048576: true; the input reads as it did. -/
def instSharesUptoRow : OpenClaim := { program := "ytjhciobkofnjfaa", sum := "5617e1d08ba01870084196ec6a43bebbb087f5ebf55e6d5da50431dc0e13fa88", func := "compline/complinelaw12.InstShares", spec := "instShares", named := ["math/bits.divideError", "math/bits.overflowError"], apart := false, narrowed := true }
def InstSharesUptoSaid : Prop := instSharesUptoRow.holds Try.pinned (OpenSpec.upto instSharesSpec)

/-- 'complinelaw12.InstBytes', WHERE WHAT IT READS IS OF BULK AT MOST 1048576: true; the input reads as it did. -/
def instBytesUptoRow : OpenClaim := { program := "ytjhciobkofnjfaa", sum := "5617e1d08ba01870084196ec6a43bebbb087f5ebf55e6d5da50431dc0e13fa88", func := "compline/complinelaw12.InstBytes", spec := "instBytes", named := ["math/bits.divideError", "math/bits.overflowError"], apart := false, narrowed := true }
def InstBytesUptoSaid : Prop := instBytesUptoRow.holds Try.pinned (OpenSpec.upto instBytesSpec)

/-- 'complinelaw12.InstBack', WHERE WHAT IT READS IS OF BULK AT MOST 1048576: true; the input reads as it did. -/
def instBackUptoRow : OpenClaim := { program := "ytjhciobkofnjfaa", sum := "5617e1d08ba01870084196ec6a43bebbb087f5ebf55e6d5da50431dc0e13fa88", func := "compline/complinelaw12.InstBack", spec := "instBack", named := ["math/bits.divideError", "math/bits.overflowError"], apart := false, narrowed := true }
def InstBackUptoSaid : Prop := instBackUptoRow.holds Try.pinned (OpenSpec.upto instBackSpec)

end Rows
end Go.Proofs.Ytjhciobkofnjfaa
