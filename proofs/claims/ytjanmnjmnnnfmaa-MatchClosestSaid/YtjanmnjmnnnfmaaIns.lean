/- An instruction as data and as 21 cells. Nothing of the program but type numbers. -/
import Derived.Test.YtjanmnjmnnnfmaaMem
import Derived.Test.YtjanmnjmnnnfmaaChecked
import Derived.Deep.MidRow
import Derived.BigFrame
import Derived.WalkKit
namespace Go.Proofs.Ytjanmnjmnnnfmaa
open Go.RowKit

structure Ins where
  id : Int
  party : ByteArray
  acc : ByteArray
  money : ByteArray
  other : ByteArray
  deliver : Bool
  asset : ByteArray
  ccy : ByteArray
  ref : ByteArray
  qty : Int
  am : Int
  day : Int
  trade : Int
  prio : Int
  part : Bool
  held : Bool
  wish : Bool
  state : Int
  mate : Int
  done : Int
  paid : Int
  deriving DecidableEq
def Ins.zero : Ins := ⟨0, ⟨#[]⟩, ⟨#[]⟩, ⟨#[]⟩, ⟨#[]⟩, false, ⟨#[]⟩, ⟨#[]⟩, ⟨#[]⟩, 0, 0, 0, 0, 0, false, false, false, 0, 0, 0, 0⟩
instance : Inhabited Ins := ⟨Ins.zero⟩
def Ins.row (x : Ins) : List Value :=
  [.int .i64 x.id, .string x.party, .string x.acc, .string x.money, .string x.other, .bool x.deliver, .string x.asset, .string x.ccy, .string x.ref, .int .i64 x.qty, .int .i64 x.am, .int .i64 x.day, .int .i64 x.trade,
   .int .i64 x.prio, .bool x.part, .bool x.held, .bool x.wish, .int .i64 x.state, .int .i64 x.mate, .int .i64 x.done, .int .i64 x.paid]
theorem row_len (x : Ins) : x.row.length = 21 := rfl
theorem row_one (x : Ins) : ∀ v ∈ x.row, v.oneCell' = true := by
  intro v hv
  simp only [Ins.row, List.mem_cons, List.not_mem_nil, or_false] at hv
  rcases hv with h | h | h | h | h | h | h | h | h | h | h | h | h | h | h | h | h | h | h | h | h <;> (rw [h]; rfl)
/-- What is read of a row, cell by cell. -/
structure RowIs (x : Ins) (X : List Value) : Prop where
  len : X.length = 21
  one : ∀ v ∈ X, v.oneCell' = true
  id : X[0]? = some (.int .i64 x.id)
  party : X[1]? = some (.string x.party)
  acc : X[2]? = some (.string x.acc)
  money : X[3]? = some (.string x.money)
  other : X[4]? = some (.string x.other)
  deliver : X[5]? = some (.bool x.deliver)
  asset : X[6]? = some (.string x.asset)
  ccy : X[7]? = some (.string x.ccy)
  ref : X[8]? = some (.string x.ref)
  qty : X[9]? = some (.int .i64 x.qty)
  am : X[10]? = some (.int .i64 x.am)
  day : X[11]? = some (.int .i64 x.day)
  trade : X[12]? = some (.int .i64 x.trade)
  prio : X[13]? = some (.int .i64 x.prio)
  part : X[14]? = some (.bool x.part)
  held : X[15]? = some (.bool x.held)
  wish : X[16]? = some (.bool x.wish)
  state : X[17]? = some (.int .i64 x.state)
  mate : X[18]? = some (.int .i64 x.mate)
  done : X[19]? = some (.int .i64 x.done)
  paid : X[20]? = some (.int .i64 x.paid)
theorem row_is (x : Ins) : RowIs x x.row := ⟨rfl, row_one x, rfl, rfl, rfl, rfl, rfl, rfl, rfl, rfl, rfl, rfl, rfl, rfl, rfl, rfl, rfl, rfl, rfl, rfl, rfl, rfl, rfl⟩

def bd (x : Int) : Prop := -9223372036854775808 ≤ x ∧ x ≤ 9223372036854775807
structure Ins.Ok (x : Ins) : Prop where
  id : bd x.id
  qty : bd x.qty
  am : bd x.am
  day : bd x.day
  trade : bd x.trade
  prio : bd x.prio
  state : bd x.state
  mate : bd x.mate
  done : bd x.done
  paid : bd x.paid
theorem info_inst : (Try.prog.info? 25).map (·.size) = some 21 := by kernel_rfl
theorem agg_inst (w : World) : (isAgg 25).run Try.prog w = .ok true w := by kernel_rfl
theorem size_inst (w : World) : (Go.sizeOf 25).run Try.prog w = .ok 21 w := by kernel_rfl
end Go.Proofs.Ytjanmnjmnnnfmaa
