/- match.Differ's great region, by the frame in which it ends. Printed by wip/tools/gendiff.py. -/
import Derived.Test.YtjanmnjmnnnfmaaCert
import Derived.Test.YtjanmnjmnnnfmaaIns
namespace Go.Proofs.Ytjanmnjmnnnfmaa
open Go.RowKit RC

theorem ba_ne (a b : ByteArray) : (!(a.toList == b.toList)) = decide (a ≠ b) := by
  by_cases h : a = b
  · subst h; simp
  · have : a.toList ≠ b.toList := by
      rw [ByteArray.toList_eq, ByteArray.toList_eq]
      intro h2
      exact h (ByteArray.ext (Array.toList_inj.1 h2))
    simp [h, this]
theorem run_sne (a b : ByteArray) (w : World) : (binOp .neq 9 (.string a) (.string b)).run Try.prog w = .ok (.bool (decide (a ≠ b))) w := by
  rw [← ba_ne]
  simp [go_sem]
theorem s_ne {a b : ByteArray} {w : World} {X : Result Next} (h : X = ((binOp .neq 9 (.string a) (.string b)).run Try.prog w).andThen fun v w' => .ok (.value v) w') : X = .ok (.value (.bool (decide (a ≠ b)))) w := by
  rw [h, run_sne]
  rfl
/-- The operations of a region, taken out of a function. -/
def regionOps : Code → Nat → Option (Array Oper)
  | .region i os _, n => if i = n then some os else none
  | .seq a b, n => (regionOps a n).or (regionOps b n)
  | _, _ => none
noncomputable def dOps : Array Oper := ((Try.f15.body).bind (regionOps · 2)).getD #[]
/-- All that the region hangs on. -/
structure DV where
  x : Ins
  y : Ins
  X : List Value
  Y : List Value
  close : Int
  far : Int
  g : Nat
  n : Nat
  b1 : Bool
  b2 : Bool
  b3 : Bool
  b4 : Bool
  b5 : Bool
noncomputable def DV.F0 (d : DV) : Act := ⟨#[Value.agg d.X.toArray, Value.agg d.Y.toArray, Value.int .i64 d.close, Value.pointer (some ⟨d.g, 0, none⟩), Value.pointer (some ⟨d.g + 1, 0, none⟩), undef, Value.slice none 0 0, Value.slice none 0 0, undef, undef, undef, undef, undef, undef, undef, undef, undef, undef, undef, undef, undef, undef, undef, undef, undef, undef, undef, undef, undef, undef, undef, undef, undef, undef, undef, undef, undef, undef, undef, undef, undef, undef, undef, undef, undef, undef, undef, undef, undef, undef, undef, undef, undef, undef, undef, undef, undef, undef, undef, undef, undef, undef, undef, undef, undef, undef, undef, undef, undef, undef, undef, undef, undef, undef, undef, undef, undef, undef, undef, undef, undef, undef, undef, undef, undef, undef, undef, undef, undef, undef, undef, undef, undef, undef, undef, undef, undef, undef, undef, undef, undef, undef, undef, undef, undef, undef, undef, undef, undef, undef, undef, undef, undef, undef, undef, undef, undef, undef, undef, undef, undef, undef, undef, undef, undef, undef, undef, undef, undef, undef, undef, undef, undef, undef, undef], []⟩
noncomputable def DV.F (d : DV) : Act := ⟨#[Value.agg d.X.toArray, Value.agg d.Y.toArray, Value.int .i64 d.close, Value.pointer (some ⟨d.g, 0, none⟩), Value.pointer (some ⟨d.g + 1, 0, none⟩), undef, Value.slice none 0 0, Value.slice none 0 0, undef, undef, Value.pointer (some ⟨d.g, 17, none⟩), Value.int .i64 (d.x.state), Value.bool (d.x.state != 0), Value.bool (d.b1), cond (!d.b1) (Value.pointer (some ⟨d.g + 1, 17, none⟩)) undef, cond (!d.b1) (Value.int .i64 (d.y.state)) undef, cond (!d.b1) (Value.bool (d.y.state != 0)) undef, Value.bool ((d.b1) || (d.y.state != 0)), Value.agg #[Value.string ⟨#[115, 116, 97, 116, 101]⟩, Value.bool ((d.b1) || (d.y.state != 0))], Value.pointer (some ⟨d.g, 1, none⟩), Value.pointer (some ⟨d.g, 5, none⟩), Value.bool (d.x.deliver), Value.pointer (some ⟨d.g + 1, 1, none⟩), Value.pointer (some ⟨d.g + 1, 5, none⟩), Value.bool (d.y.deliver), Value.bool (d.x.deliver == d.y.deliver), Value.agg #[Value.string ⟨#[115, 105, 100, 101]⟩, Value.bool (d.x.deliver == d.y.deliver)], Value.pointer (some ⟨d.g, 1, none⟩), Value.pointer (some ⟨d.g, 1, none⟩), Value.string (d.x.party), Value.pointer (some ⟨d.g + 1, 1, none⟩), Value.pointer (some ⟨d.g + 1, 4, none⟩), Value.string (d.y.other), Value.bool (decide (d.x.party ≠ d.y.other)), Value.bool (d.b2), cond (!d.b2) (Value.pointer (some ⟨d.g + 1, 1, none⟩)) undef, cond (!d.b2) (Value.pointer (some ⟨d.g + 1, 1, none⟩)) undef, cond (!d.b2) (Value.string (d.y.party)) undef, cond (!d.b2) (Value.pointer (some ⟨d.g, 1, none⟩)) undef, cond (!d.b2) (Value.pointer (some ⟨d.g, 4, none⟩)) undef, cond (!d.b2) (Value.string (d.x.other)) undef, cond (!d.b2) (Value.bool (decide (d.y.party ≠ d.x.other))) undef, Value.bool ((d.b2) || (decide (d.y.party ≠ d.x.other))), Value.agg #[Value.string ⟨#[112, 97, 114, 116, 121]⟩, Value.bool ((d.b2) || (decide (d.y.party ≠ d.x.other)))], Value.pointer (some ⟨d.g, 1, none⟩), Value.pointer (some ⟨d.g, 6, none⟩), Value.string (d.x.asset), Value.pointer (some ⟨d.g + 1, 1, none⟩), Value.pointer (some ⟨d.g + 1, 6, none⟩), Value.string (d.y.asset), Value.bool (decide (d.x.asset ≠ d.y.asset)), Value.agg #[Value.string ⟨#[97, 115, 115, 101, 116]⟩, Value.bool (decide (d.x.asset ≠ d.y.asset))], Value.pointer (some ⟨d.g, 1, none⟩), Value.pointer (some ⟨d.g, 9, none⟩), Value.int .i64 (d.x.qty), Value.pointer (some ⟨d.g + 1, 1, none⟩), Value.pointer (some ⟨d.g + 1, 9, none⟩), Value.int .i64 (d.y.qty), Value.bool (d.x.qty != d.y.qty), Value.agg #[Value.string ⟨#[113, 116, 121]⟩, Value.bool (d.x.qty != d.y.qty)], Value.pointer (some ⟨d.g, 1, none⟩), Value.pointer (some ⟨d.g, 7, none⟩), Value.string (d.x.ccy), Value.pointer (some ⟨d.g + 1, 1, none⟩), Value.pointer (some ⟨d.g + 1, 7, none⟩), Value.string (d.y.ccy), Value.bool (decide (d.x.ccy ≠ d.y.ccy)), Value.agg #[Value.string ⟨#[99, 99, 121]⟩, Value.bool (decide (d.x.ccy ≠ d.y.ccy))], Value.pointer (some ⟨d.g, 1, none⟩), Value.pointer (some ⟨d.g, 11, none⟩), Value.int .i64 (d.x.day), Value.pointer (some ⟨d.g + 1, 1, none⟩), Value.pointer (some ⟨d.g + 1, 11, none⟩), Value.int .i64 (d.y.day), Value.bool (d.x.day != d.y.day), Value.agg #[Value.string ⟨#[100, 97, 121]⟩, Value.bool (d.x.day != d.y.day)], Value.pointer (some ⟨d.g, 1, none⟩), Value.pointer (some ⟨d.g, 12, none⟩), Value.int .i64 (d.x.trade), Value.pointer (some ⟨d.g + 1, 1, none⟩), Value.pointer (some ⟨d.g + 1, 12, none⟩), Value.int .i64 (d.y.trade), Value.bool (d.x.trade != d.y.trade), Value.agg #[Value.string ⟨#[116, 114, 97, 100, 101]⟩, Value.bool (d.x.trade != d.y.trade)], Value.int .i64 (d.close), Value.bool (decide (d.close < 0)), Value.bool (d.b3), cond (!d.b3) (Value.pointer (some ⟨d.g, 1, none⟩)) undef, cond (!d.b3) (Value.pointer (some ⟨d.g, 10, none⟩)) undef, cond (!d.b3) (Value.int .i64 (d.x.am)) undef, cond (!d.b3) (Value.pointer (some ⟨d.g + 1, 1, none⟩)) undef, cond (!d.b3) (Value.pointer (some ⟨d.g + 1, 10, none⟩)) undef, cond (!d.b3) (Value.int .i64 (d.y.am)) undef, cond (!d.b3) (Value.int .u64 (d.far)) undef, cond (!d.b3) (Value.int .i64 (d.close)) undef, cond (!d.b3) (Value.int .i64 (if (0 : Int) > d.close then 0 else d.close)) undef, cond (!d.b3) (Value.int .u64 (IntKind.u64.wrap (if (0 : Int) > d.close then 0 else d.close))) undef, cond (!d.b3) (Value.bool (decide (IntKind.u64.wrap (if (0 : Int) > d.close then 0 else d.close) < d.far))) undef, Value.bool ((d.b3) || (decide (IntKind.u64.wrap (if (0 : Int) > d.close then 0 else d.close) < d.far))), Value.agg #[Value.string ⟨#[97, 109, 111, 117, 110, 116]⟩, Value.bool ((d.b3) || (decide (IntKind.u64.wrap (if (0 : Int) > d.close then 0 else d.close) < d.far)))], Value.pointer (some ⟨d.g, 1, none⟩), Value.pointer (some ⟨d.g, 8, none⟩), Value.string (d.x.ref), Value.pointer (some ⟨d.g + 1, 1, none⟩), Value.pointer (some ⟨d.g + 1, 8, none⟩), Value.string (d.y.ref), Value.bool (decide (d.x.ref ≠ d.y.ref)), Value.bool (d.b4), cond d.b4 (Value.pointer (some ⟨d.g, 1, none⟩)) undef, cond d.b4 (Value.pointer (some ⟨d.g, 8, none⟩)) undef, cond d.b4 (Value.string (d.x.ref)) undef, cond d.b4 (Value.bool (decide (d.x.ref ≠ ⟨#[]⟩))) undef, Value.bool ((d.b4) && (decide (d.x.ref ≠ ⟨#[]⟩))), Value.bool (d.b5), cond d.b5 (Value.pointer (some ⟨d.g + 1, 1, none⟩)) undef, cond d.b5 (Value.pointer (some ⟨d.g + 1, 8, none⟩)) undef, cond d.b5 (Value.string (d.y.ref)) undef, cond d.b5 (Value.bool (decide (d.y.ref ≠ ⟨#[]⟩))) undef, Value.bool ((d.b5) && (decide (d.y.ref ≠ ⟨#[]⟩))), Value.agg #[Value.string ⟨#[114, 101, 102]⟩, Value.bool ((d.b5) && (decide (d.y.ref ≠ ⟨#[]⟩)))], Value.slice (some ⟨d.n, 0, none⟩) 10 10, Value.int .i64 (10), Value.int .i64 (0), undef, undef, undef, undef, undef, undef, undef, undef, undef, undef, undef, undef], []⟩
noncomputable def DV.cells (d : DV) : List Value := [Value.string ⟨#[115, 116, 97, 116, 101]⟩, Value.bool ((d.b1) || (d.y.state != 0)), Value.string ⟨#[115, 105, 100, 101]⟩, Value.bool (d.x.deliver == d.y.deliver), Value.string ⟨#[112, 97, 114, 116, 121]⟩, Value.bool ((d.b2) || (decide (d.y.party ≠ d.x.other))), Value.string ⟨#[97, 115, 115, 101, 116]⟩, Value.bool (decide (d.x.asset ≠ d.y.asset)), Value.string ⟨#[113, 116, 121]⟩, Value.bool (d.x.qty != d.y.qty), Value.string ⟨#[99, 99, 121]⟩, Value.bool (decide (d.x.ccy ≠ d.y.ccy)), Value.string ⟨#[100, 97, 121]⟩, Value.bool (d.x.day != d.y.day), Value.string ⟨#[116, 114, 97, 100, 101]⟩, Value.bool (d.x.trade != d.y.trade), Value.string ⟨#[97, 109, 111, 117, 110, 116]⟩, Value.bool ((d.b3) || (decide (IntKind.u64.wrap (if (0 : Int) > d.close then 0 else d.close) < d.far))), Value.string ⟨#[114, 101, 102]⟩, Value.bool ((d.b5) && (decide (d.y.ref ≠ ⟨#[]⟩)))]
/-- What is known of a world: the cells of the two rows. -/
structure DV.Knows (d : DV) (W : World) : Prop where
  xparty : W.cell? ⟨d.g, 1, none⟩ = some (Value.string (d.x.party))
  xacc : W.cell? ⟨d.g, 2, none⟩ = some (Value.string (d.x.acc))
  xmoney : W.cell? ⟨d.g, 3, none⟩ = some (Value.string (d.x.money))
  xother : W.cell? ⟨d.g, 4, none⟩ = some (Value.string (d.x.other))
  xdeliver : W.cell? ⟨d.g, 5, none⟩ = some (Value.bool (d.x.deliver))
  xasset : W.cell? ⟨d.g, 6, none⟩ = some (Value.string (d.x.asset))
  xccy : W.cell? ⟨d.g, 7, none⟩ = some (Value.string (d.x.ccy))
  xref : W.cell? ⟨d.g, 8, none⟩ = some (Value.string (d.x.ref))
  xqty : W.cell? ⟨d.g, 9, none⟩ = some (Value.int .i64 (d.x.qty))
  xam : W.cell? ⟨d.g, 10, none⟩ = some (Value.int .i64 (d.x.am))
  xday : W.cell? ⟨d.g, 11, none⟩ = some (Value.int .i64 (d.x.day))
  xtrade : W.cell? ⟨d.g, 12, none⟩ = some (Value.int .i64 (d.x.trade))
  xstate : W.cell? ⟨d.g, 17, none⟩ = some (Value.int .i64 (d.x.state))
  yparty : W.cell? ⟨d.g + 1, 1, none⟩ = some (Value.string (d.y.party))
  yacc : W.cell? ⟨d.g + 1, 2, none⟩ = some (Value.string (d.y.acc))
  ymoney : W.cell? ⟨d.g + 1, 3, none⟩ = some (Value.string (d.y.money))
  yother : W.cell? ⟨d.g + 1, 4, none⟩ = some (Value.string (d.y.other))
  ydeliver : W.cell? ⟨d.g + 1, 5, none⟩ = some (Value.bool (d.y.deliver))
  yasset : W.cell? ⟨d.g + 1, 6, none⟩ = some (Value.string (d.y.asset))
  yccy : W.cell? ⟨d.g + 1, 7, none⟩ = some (Value.string (d.y.ccy))
  yref : W.cell? ⟨d.g + 1, 8, none⟩ = some (Value.string (d.y.ref))
  yqty : W.cell? ⟨d.g + 1, 9, none⟩ = some (Value.int .i64 (d.y.qty))
  yam : W.cell? ⟨d.g + 1, 10, none⟩ = some (Value.int .i64 (d.y.am))
  yday : W.cell? ⟨d.g + 1, 11, none⟩ = some (Value.int .i64 (d.y.day))
  ytrade : W.cell? ⟨d.g + 1, 12, none⟩ = some (Value.int .i64 (d.y.trade))
  ystate : W.cell? ⟨d.g + 1, 17, none⟩ = some (Value.int .i64 (d.y.state))
structure DV.Bs (d : DV) : Prop where
  b1 : d.b1 = (d.x.state != 0)
  b2 : d.b2 = (decide (d.x.party ≠ d.y.other))
  b3 : d.b3 = (decide (d.close < 0))
  b4 : d.b4 = (decide (d.x.ref ≠ d.y.ref))
  b5 : d.b5 = ((d.b4) && (decide (d.x.ref ≠ ⟨#[]⟩)))
def DV.C (d : DV) (W : World) (b : Bool) (w : World) : Prop := ∃ n, w = cond b ((W.alloc (.cells d.cells.toArray 85)).drewN n) (W.drewN n)
def DV.Φ (d : DV) (W : World) (i : Nat) : Prop := i ≠ 110 → ∀ b w, d.C W b w → stepAt Try.prog dOps d.F i (d.C W b) w

theorem dsize : dOps.size = 113 := by kernel_rfl
section
variable (d : DV) (W : World)
theorem d_pure (i : Nat) {v : Value} (h1 : dOps[i]? = some (dOps.getD i default)) (h2 : Region.wanted (dOps.getD i default) (yielded dOps d.F.tmps) = true) (h3 : slotV d.F (dOps.getD i default).dst = v) (h4 : ∀ w, (execOp d.F.eval (dOps.getD i default)).run Try.prog w = .ok (.value v) w) : d.Φ W i := fun _ => step_pure i h1 h2 h3 h4
theorem d_load (i : Nat) {t : TypeId} {ad : Addr} {v : Value} (h1 : dOps[i]? = some (dOps.getD i default)) (h2 : Region.wanted (dOps.getD i default) (yielded dOps d.F.tmps) = true) (h3 : slotV d.F (dOps.getD i default).dst = v)
    (h4 : execOp d.F.eval (dOps.getD i default) = (do pure (.value (← Instr.loadAt t (.pointer (some ad)))))) (h5 : ∀ b w, d.C W b w → (Instr.loadAt t (.pointer (some ad))).run Try.prog w = .ok v w) : d.Φ W i := fun _ => step_load i h1 h2 h3 h4 h5
theorem d_if (i : Nat) (c : Bool) (h1 : dOps[i]? = some (dOps.getD i default)) (h2 : Region.wanted (dOps.getD i default) (yielded dOps d.F.tmps) = c) (h3 : c = false → slotV d.F (dOps.getD i default).dst = undef)
    (h : c = true → ∀ b w, d.C W b w → Gives Try.prog (slotV d.F (dOps.getD i default).dst) (d.C W b) ((execOp d.F.eval (dOps.getD i default)).run Try.prog w)) : d.Φ W i := fun _ => step_if i h1 c h2 h3 h
theorem d_cell {b : Bool} {w : World} (hw : d.C W b w) {ad : Addr} {v : Value} (h : W.cell? ad = some v) : w.cell? ad = some v := by
  obtain ⟨n, rfl⟩ := hw
  cases b
  · exact h
  · show (W.alloc (.cells d.cells.toArray 85)).cell? ad = some v
    rw [World.cell?_of_block (w := W) (Below.heap_alloc W _ ad.block (World.block_lt_of_cell? W ad h))]; exact h

theorem load_int {w : World} {ad : Addr} {x : Int} (h : w.cell? ad = some (.int .i64 x)) : (Instr.loadAt 3 (.pointer (some ad))).run Try.prog w = .ok (.int .i64 x) w := by
  simp [go_sem, h]
theorem load_str {w : World} {ad : Addr} {x : ByteArray} (h : w.cell? ad = some (.string x)) : (Instr.loadAt 9 (.pointer (some ad))).run Try.prog w = .ok (.string x) w := by
  simp [go_sem, h]
theorem load_bool {w : World} {ad : Addr} {x : Bool} (h : w.cell? ad = some (.bool x)) : (Instr.loadAt 4 (.pointer (some ad))).run Try.prog w = .ok (.bool x) w := by
  simp [go_sem, h]

theorem d_skip (i : Nat) (h1 : dOps[i]? = some (dOps.getD i default)) (h2 : Region.wanted (dOps.getD i default) (yielded dOps d.F.tmps) = false) (h3 : slotV d.F (dOps.getD i default).dst = undef) : d.Φ W i :=
  d_if d W i false h1 h2 (fun _ => h3) (fun h => by cases h)
theorem d_call (i : Nat) {f : FuncId} {args : Array Value} {v : Value} (h1 : dOps[i]? = some (dOps.getD i default)) (h2 : Region.wanted (dOps.getD i default) (yielded dOps d.F.tmps) = true) (h3 : slotV d.F (dOps.getD i default).dst = v)
    (h4 : ∀ w, (execOp d.F.eval (dOps.getD i default)).run Try.prog w = .ok (.enter f args) w) (h5 : ∀ w, Calls Try.prog f args w fun r w' => r = .returned v ∧ w' = w) : d.Φ W i :=
  d_if d W i true h1 h2 (fun h => by cases h) (fun _ b w hw => by rw [h4 w, h3]; exact (h5 w).mono fun r w' ⟨e1, e2⟩ => ⟨e1, by rw [e2]; exact hw⟩)
def DV.Far (d : DV) : Prop := ∀ w, Calls Try.prog 31 #[.int .i64 d.x.am, .int .i64 d.y.am] w fun r w' => r = .returned (.int .u64 d.far) ∧ w' = w

theorem ds0  : d.Φ W 0 := d_pure d W 0 (v := Value.pointer (some ⟨d.g, 17, none⟩)) (by kernel_rfl) (by kernel_rfl) (by kernel_rfl) (fun _ => by kernel_rfl)
theorem ds1 (K : d.Knows W) : d.Φ W 1 := d_load d W 1 (t := 3) (ad := ⟨d.g, 17, none⟩) (v := Value.int .i64 (d.x.state)) (by kernel_rfl) (by kernel_rfl) (by kernel_rfl) (by kernel_rfl) (fun _ _ hw => load_int (d_cell d W hw K.xstate))
theorem ds2  : d.Φ W 2 := d_pure d W 2 (v := Value.bool (d.x.state != 0)) (by kernel_rfl) (by kernel_rfl) (by kernel_rfl) (fun _ => by kernel_rfl)
theorem ds3 (HB : d.Bs) : d.Φ W 3 := d_pure d W 3 (v := Value.bool (d.b1)) (by kernel_rfl) (by kernel_rfl) (by kernel_rfl) (fun _ => by rw [HB.b1]; kernel_rfl)
theorem ds4  : d.Φ W 4 := by
  obtain ⟨x, y, X, Y, close, far, g, n, b1, b2, b3, b4, b5⟩ := d
  cases b1
  · exact d_pure _ W 4 (v := Value.pointer (some ⟨g + 1, 17, none⟩)) (by kernel_rfl) (by kernel_rfl) (by kernel_rfl) (fun _ => by kernel_rfl)
  · exact d_skip _ W 4 (by kernel_rfl) (by kernel_rfl) (by kernel_rfl)
theorem ds5 (K : d.Knows W) : d.Φ W 5 := by
  obtain ⟨x, y, X, Y, close, far, g, n, b1, b2, b3, b4, b5⟩ := d
  cases b1
  · exact d_load _ W 5 (t := 3) (ad := ⟨g + 1, 17, none⟩) (v := Value.int .i64 (y.state)) (by kernel_rfl) (by kernel_rfl) (by kernel_rfl) (by kernel_rfl) (fun _ _ hw => load_int (d_cell _ W hw K.ystate))
  · exact d_skip _ W 5 (by kernel_rfl) (by kernel_rfl) (by kernel_rfl)
theorem ds6  : d.Φ W 6 := by
  obtain ⟨x, y, X, Y, close, far, g, n, b1, b2, b3, b4, b5⟩ := d
  cases b1
  · exact d_pure _ W 6 (v := Value.bool (y.state != 0)) (by kernel_rfl) (by kernel_rfl) (by kernel_rfl) (fun _ => by kernel_rfl)
  · exact d_skip _ W 6 (by kernel_rfl) (by kernel_rfl) (by kernel_rfl)
theorem ds7  : d.Φ W 7 := by
  obtain ⟨x, y, X, Y, close, far, g, n, b1, b2, b3, b4, b5⟩ := d
  cases b1
  · exact d_pure _ W 7 (v := Value.bool ((false) || (y.state != 0))) (by kernel_rfl) (by kernel_rfl) (by kernel_rfl) (fun _ => by kernel_rfl)
  · exact d_pure _ W 7 (v := Value.bool ((true) || (y.state != 0))) (by kernel_rfl) (by kernel_rfl) (by kernel_rfl) (fun _ => by kernel_rfl)
theorem ds8  : d.Φ W 8 := d_pure d W 8 (v := Value.agg #[Value.string ⟨#[115, 116, 97, 116, 101]⟩, Value.bool ((d.b1) || (d.y.state != 0))]) (by kernel_rfl) (by kernel_rfl) (by kernel_rfl) (fun _ => by kernel_rfl)
theorem ds9  : d.Φ W 9 := d_pure d W 9 (v := Value.pointer (some ⟨d.g, 1, none⟩)) (by kernel_rfl) (by kernel_rfl) (by kernel_rfl) (fun _ => by kernel_rfl)
theorem ds10  : d.Φ W 10 := d_pure d W 10 (v := Value.pointer (some ⟨d.g, 5, none⟩)) (by kernel_rfl) (by kernel_rfl) (by kernel_rfl) (fun _ => by kernel_rfl)
theorem ds11 (K : d.Knows W) : d.Φ W 11 := d_load d W 11 (t := 4) (ad := ⟨d.g, 5, none⟩) (v := Value.bool (d.x.deliver)) (by kernel_rfl) (by kernel_rfl) (by kernel_rfl) (by kernel_rfl) (fun _ _ hw => load_bool (d_cell d W hw K.xdeliver))
theorem ds12  : d.Φ W 12 := d_pure d W 12 (v := Value.pointer (some ⟨d.g + 1, 1, none⟩)) (by kernel_rfl) (by kernel_rfl) (by kernel_rfl) (fun _ => by kernel_rfl)
theorem ds13  : d.Φ W 13 := d_pure d W 13 (v := Value.pointer (some ⟨d.g + 1, 5, none⟩)) (by kernel_rfl) (by kernel_rfl) (by kernel_rfl) (fun _ => by kernel_rfl)
theorem ds14 (K : d.Knows W) : d.Φ W 14 := d_load d W 14 (t := 4) (ad := ⟨d.g + 1, 5, none⟩) (v := Value.bool (d.y.deliver)) (by kernel_rfl) (by kernel_rfl) (by kernel_rfl) (by kernel_rfl) (fun _ _ hw => load_bool (d_cell d W hw K.ydeliver))
theorem ds15  : d.Φ W 15 := d_pure d W 15 (v := Value.bool (d.x.deliver == d.y.deliver)) (by kernel_rfl) (by kernel_rfl) (by kernel_rfl) (fun _ => by kernel_rfl)
theorem ds16  : d.Φ W 16 := d_pure d W 16 (v := Value.agg #[Value.string ⟨#[115, 105, 100, 101]⟩, Value.bool (d.x.deliver == d.y.deliver)]) (by kernel_rfl) (by kernel_rfl) (by kernel_rfl) (fun _ => by kernel_rfl)
theorem ds17  : d.Φ W 17 := d_pure d W 17 (v := Value.pointer (some ⟨d.g, 1, none⟩)) (by kernel_rfl) (by kernel_rfl) (by kernel_rfl) (fun _ => by kernel_rfl)
theorem ds18  : d.Φ W 18 := d_pure d W 18 (v := Value.pointer (some ⟨d.g, 1, none⟩)) (by kernel_rfl) (by kernel_rfl) (by kernel_rfl) (fun _ => by kernel_rfl)
theorem ds19 (K : d.Knows W) : d.Φ W 19 := d_load d W 19 (t := 9) (ad := ⟨d.g, 1, none⟩) (v := Value.string (d.x.party)) (by kernel_rfl) (by kernel_rfl) (by kernel_rfl) (by kernel_rfl) (fun _ _ hw => load_str (d_cell d W hw K.xparty))
theorem ds20  : d.Φ W 20 := d_pure d W 20 (v := Value.pointer (some ⟨d.g + 1, 1, none⟩)) (by kernel_rfl) (by kernel_rfl) (by kernel_rfl) (fun _ => by kernel_rfl)
theorem ds21  : d.Φ W 21 := d_pure d W 21 (v := Value.pointer (some ⟨d.g + 1, 4, none⟩)) (by kernel_rfl) (by kernel_rfl) (by kernel_rfl) (fun _ => by kernel_rfl)
theorem ds22 (K : d.Knows W) : d.Φ W 22 := d_load d W 22 (t := 9) (ad := ⟨d.g + 1, 4, none⟩) (v := Value.string (d.y.other)) (by kernel_rfl) (by kernel_rfl) (by kernel_rfl) (by kernel_rfl) (fun _ _ hw => load_str (d_cell d W hw K.yother))
theorem ds23  : d.Φ W 23 := d_pure d W 23 (v := Value.bool (decide (d.x.party ≠ d.y.other))) (by kernel_rfl) (by kernel_rfl) (by kernel_rfl) (fun w => s_ne (a := d.x.party) (b := d.y.other) (w := w) (by kernel_rfl))
theorem ds24 (HB : d.Bs) : d.Φ W 24 := d_pure d W 24 (v := Value.bool (d.b2)) (by kernel_rfl) (by kernel_rfl) (by kernel_rfl) (fun _ => by rw [HB.b2]; kernel_rfl)
theorem ds25  : d.Φ W 25 := by
  obtain ⟨x, y, X, Y, close, far, g, n, b1, b2, b3, b4, b5⟩ := d
  cases b2
  · exact d_pure _ W 25 (v := Value.pointer (some ⟨g + 1, 1, none⟩)) (by kernel_rfl) (by kernel_rfl) (by kernel_rfl) (fun _ => by kernel_rfl)
  · exact d_skip _ W 25 (by kernel_rfl) (by kernel_rfl) (by kernel_rfl)
theorem ds26  : d.Φ W 26 := by
  obtain ⟨x, y, X, Y, close, far, g, n, b1, b2, b3, b4, b5⟩ := d
  cases b2
  · exact d_pure _ W 26 (v := Value.pointer (some ⟨g + 1, 1, none⟩)) (by kernel_rfl) (by kernel_rfl) (by kernel_rfl) (fun _ => by kernel_rfl)
  · exact d_skip _ W 26 (by kernel_rfl) (by kernel_rfl) (by kernel_rfl)
theorem ds27 (K : d.Knows W) : d.Φ W 27 := by
  obtain ⟨x, y, X, Y, close, far, g, n, b1, b2, b3, b4, b5⟩ := d
  cases b2
  · exact d_load _ W 27 (t := 9) (ad := ⟨g + 1, 1, none⟩) (v := Value.string (y.party)) (by kernel_rfl) (by kernel_rfl) (by kernel_rfl) (by kernel_rfl) (fun _ _ hw => load_str (d_cell _ W hw K.yparty))
  · exact d_skip _ W 27 (by kernel_rfl) (by kernel_rfl) (by kernel_rfl)
theorem ds28  : d.Φ W 28 := by
  obtain ⟨x, y, X, Y, close, far, g, n, b1, b2, b3, b4, b5⟩ := d
  cases b2
  · exact d_pure _ W 28 (v := Value.pointer (some ⟨g, 1, none⟩)) (by kernel_rfl) (by kernel_rfl) (by kernel_rfl) (fun _ => by kernel_rfl)
  · exact d_skip _ W 28 (by kernel_rfl) (by kernel_rfl) (by kernel_rfl)
theorem ds29  : d.Φ W 29 := by
  obtain ⟨x, y, X, Y, close, far, g, n, b1, b2, b3, b4, b5⟩ := d
  cases b2
  · exact d_pure _ W 29 (v := Value.pointer (some ⟨g, 4, none⟩)) (by kernel_rfl) (by kernel_rfl) (by kernel_rfl) (fun _ => by kernel_rfl)
  · exact d_skip _ W 29 (by kernel_rfl) (by kernel_rfl) (by kernel_rfl)
theorem ds30 (K : d.Knows W) : d.Φ W 30 := by
  obtain ⟨x, y, X, Y, close, far, g, n, b1, b2, b3, b4, b5⟩ := d
  cases b2
  · exact d_load _ W 30 (t := 9) (ad := ⟨g, 4, none⟩) (v := Value.string (x.other)) (by kernel_rfl) (by kernel_rfl) (by kernel_rfl) (by kernel_rfl) (fun _ _ hw => load_str (d_cell _ W hw K.xother))
  · exact d_skip _ W 30 (by kernel_rfl) (by kernel_rfl) (by kernel_rfl)
theorem ds31  : d.Φ W 31 := by
  obtain ⟨x, y, X, Y, close, far, g, n, b1, b2, b3, b4, b5⟩ := d
  cases b2
  · exact d_pure _ W 31 (v := Value.bool (decide (y.party ≠ x.other))) (by kernel_rfl) (by kernel_rfl) (by kernel_rfl) (fun w => s_ne (a := y.party) (b := x.other) (w := w) (by kernel_rfl))
  · exact d_skip _ W 31 (by kernel_rfl) (by kernel_rfl) (by kernel_rfl)
theorem ds32  : d.Φ W 32 := by
  obtain ⟨x, y, X, Y, close, far, g, n, b1, b2, b3, b4, b5⟩ := d
  cases b2
  · exact d_pure _ W 32 (v := Value.bool ((false) || (decide (y.party ≠ x.other)))) (by kernel_rfl) (by kernel_rfl) (by kernel_rfl) (fun _ => by kernel_rfl)
  · exact d_pure _ W 32 (v := Value.bool ((true) || (decide (y.party ≠ x.other)))) (by kernel_rfl) (by kernel_rfl) (by kernel_rfl) (fun _ => by kernel_rfl)
theorem ds33  : d.Φ W 33 := d_pure d W 33 (v := Value.agg #[Value.string ⟨#[112, 97, 114, 116, 121]⟩, Value.bool ((d.b2) || (decide (d.y.party ≠ d.x.other)))]) (by kernel_rfl) (by kernel_rfl) (by kernel_rfl) (fun _ => by kernel_rfl)
theorem ds34  : d.Φ W 34 := d_pure d W 34 (v := Value.pointer (some ⟨d.g, 1, none⟩)) (by kernel_rfl) (by kernel_rfl) (by kernel_rfl) (fun _ => by kernel_rfl)
theorem ds35  : d.Φ W 35 := d_pure d W 35 (v := Value.pointer (some ⟨d.g, 6, none⟩)) (by kernel_rfl) (by kernel_rfl) (by kernel_rfl) (fun _ => by kernel_rfl)
theorem ds36 (K : d.Knows W) : d.Φ W 36 := d_load d W 36 (t := 9) (ad := ⟨d.g, 6, none⟩) (v := Value.string (d.x.asset)) (by kernel_rfl) (by kernel_rfl) (by kernel_rfl) (by kernel_rfl) (fun _ _ hw => load_str (d_cell d W hw K.xasset))
theorem ds37  : d.Φ W 37 := d_pure d W 37 (v := Value.pointer (some ⟨d.g + 1, 1, none⟩)) (by kernel_rfl) (by kernel_rfl) (by kernel_rfl) (fun _ => by kernel_rfl)
theorem ds38  : d.Φ W 38 := d_pure d W 38 (v := Value.pointer (some ⟨d.g + 1, 6, none⟩)) (by kernel_rfl) (by kernel_rfl) (by kernel_rfl) (fun _ => by kernel_rfl)
theorem ds39 (K : d.Knows W) : d.Φ W 39 := d_load d W 39 (t := 9) (ad := ⟨d.g + 1, 6, none⟩) (v := Value.string (d.y.asset)) (by kernel_rfl) (by kernel_rfl) (by kernel_rfl) (by kernel_rfl) (fun _ _ hw => load_str (d_cell d W hw K.yasset))
theorem ds40  : d.Φ W 40 := d_pure d W 40 (v := Value.bool (decide (d.x.asset ≠ d.y.asset))) (by kernel_rfl) (by kernel_rfl) (by kernel_rfl) (fun w => s_ne (a := d.x.asset) (b := d.y.asset) (w := w) (by kernel_rfl))
theorem ds41  : d.Φ W 41 := d_pure d W 41 (v := Value.agg #[Value.string ⟨#[97, 115, 115, 101, 116]⟩, Value.bool (decide (d.x.asset ≠ d.y.asset))]) (by kernel_rfl) (by kernel_rfl) (by kernel_rfl) (fun _ => by kernel_rfl)
theorem ds42  : d.Φ W 42 := d_pure d W 42 (v := Value.pointer (some ⟨d.g, 1, none⟩)) (by kernel_rfl) (by kernel_rfl) (by kernel_rfl) (fun _ => by kernel_rfl)
theorem ds43  : d.Φ W 43 := d_pure d W 43 (v := Value.pointer (some ⟨d.g, 9, none⟩)) (by kernel_rfl) (by kernel_rfl) (by kernel_rfl) (fun _ => by kernel_rfl)
theorem ds44 (K : d.Knows W) : d.Φ W 44 := d_load d W 44 (t := 3) (ad := ⟨d.g, 9, none⟩) (v := Value.int .i64 (d.x.qty)) (by kernel_rfl) (by kernel_rfl) (by kernel_rfl) (by kernel_rfl) (fun _ _ hw => load_int (d_cell d W hw K.xqty))
theorem ds45  : d.Φ W 45 := d_pure d W 45 (v := Value.pointer (some ⟨d.g + 1, 1, none⟩)) (by kernel_rfl) (by kernel_rfl) (by kernel_rfl) (fun _ => by kernel_rfl)
theorem ds46  : d.Φ W 46 := d_pure d W 46 (v := Value.pointer (some ⟨d.g + 1, 9, none⟩)) (by kernel_rfl) (by kernel_rfl) (by kernel_rfl) (fun _ => by kernel_rfl)
theorem ds47 (K : d.Knows W) : d.Φ W 47 := d_load d W 47 (t := 3) (ad := ⟨d.g + 1, 9, none⟩) (v := Value.int .i64 (d.y.qty)) (by kernel_rfl) (by kernel_rfl) (by kernel_rfl) (by kernel_rfl) (fun _ _ hw => load_int (d_cell d W hw K.yqty))
theorem ds48  : d.Φ W 48 := d_pure d W 48 (v := Value.bool (d.x.qty != d.y.qty)) (by kernel_rfl) (by kernel_rfl) (by kernel_rfl) (fun _ => by kernel_rfl)
theorem ds49  : d.Φ W 49 := d_pure d W 49 (v := Value.agg #[Value.string ⟨#[113, 116, 121]⟩, Value.bool (d.x.qty != d.y.qty)]) (by kernel_rfl) (by kernel_rfl) (by kernel_rfl) (fun _ => by kernel_rfl)
theorem ds50  : d.Φ W 50 := d_pure d W 50 (v := Value.pointer (some ⟨d.g, 1, none⟩)) (by kernel_rfl) (by kernel_rfl) (by kernel_rfl) (fun _ => by kernel_rfl)
theorem ds51  : d.Φ W 51 := d_pure d W 51 (v := Value.pointer (some ⟨d.g, 7, none⟩)) (by kernel_rfl) (by kernel_rfl) (by kernel_rfl) (fun _ => by kernel_rfl)
theorem ds52 (K : d.Knows W) : d.Φ W 52 := d_load d W 52 (t := 9) (ad := ⟨d.g, 7, none⟩) (v := Value.string (d.x.ccy)) (by kernel_rfl) (by kernel_rfl) (by kernel_rfl) (by kernel_rfl) (fun _ _ hw => load_str (d_cell d W hw K.xccy))
theorem ds53  : d.Φ W 53 := d_pure d W 53 (v := Value.pointer (some ⟨d.g + 1, 1, none⟩)) (by kernel_rfl) (by kernel_rfl) (by kernel_rfl) (fun _ => by kernel_rfl)
theorem ds54  : d.Φ W 54 := d_pure d W 54 (v := Value.pointer (some ⟨d.g + 1, 7, none⟩)) (by kernel_rfl) (by kernel_rfl) (by kernel_rfl) (fun _ => by kernel_rfl)
theorem ds55 (K : d.Knows W) : d.Φ W 55 := d_load d W 55 (t := 9) (ad := ⟨d.g + 1, 7, none⟩) (v := Value.string (d.y.ccy)) (by kernel_rfl) (by kernel_rfl) (by kernel_rfl) (by kernel_rfl) (fun _ _ hw => load_str (d_cell d W hw K.yccy))
theorem ds56  : d.Φ W 56 := d_pure d W 56 (v := Value.bool (decide (d.x.ccy ≠ d.y.ccy))) (by kernel_rfl) (by kernel_rfl) (by kernel_rfl) (fun w => s_ne (a := d.x.ccy) (b := d.y.ccy) (w := w) (by kernel_rfl))
theorem ds57  : d.Φ W 57 := d_pure d W 57 (v := Value.agg #[Value.string ⟨#[99, 99, 121]⟩, Value.bool (decide (d.x.ccy ≠ d.y.ccy))]) (by kernel_rfl) (by kernel_rfl) (by kernel_rfl) (fun _ => by kernel_rfl)
theorem ds58  : d.Φ W 58 := d_pure d W 58 (v := Value.pointer (some ⟨d.g, 1, none⟩)) (by kernel_rfl) (by kernel_rfl) (by kernel_rfl) (fun _ => by kernel_rfl)
theorem ds59  : d.Φ W 59 := d_pure d W 59 (v := Value.pointer (some ⟨d.g, 11, none⟩)) (by kernel_rfl) (by kernel_rfl) (by kernel_rfl) (fun _ => by kernel_rfl)
theorem ds60 (K : d.Knows W) : d.Φ W 60 := d_load d W 60 (t := 3) (ad := ⟨d.g, 11, none⟩) (v := Value.int .i64 (d.x.day)) (by kernel_rfl) (by kernel_rfl) (by kernel_rfl) (by kernel_rfl) (fun _ _ hw => load_int (d_cell d W hw K.xday))
theorem ds61  : d.Φ W 61 := d_pure d W 61 (v := Value.pointer (some ⟨d.g + 1, 1, none⟩)) (by kernel_rfl) (by kernel_rfl) (by kernel_rfl) (fun _ => by kernel_rfl)
theorem ds62  : d.Φ W 62 := d_pure d W 62 (v := Value.pointer (some ⟨d.g + 1, 11, none⟩)) (by kernel_rfl) (by kernel_rfl) (by kernel_rfl) (fun _ => by kernel_rfl)
theorem ds63 (K : d.Knows W) : d.Φ W 63 := d_load d W 63 (t := 3) (ad := ⟨d.g + 1, 11, none⟩) (v := Value.int .i64 (d.y.day)) (by kernel_rfl) (by kernel_rfl) (by kernel_rfl) (by kernel_rfl) (fun _ _ hw => load_int (d_cell d W hw K.yday))
theorem ds64  : d.Φ W 64 := d_pure d W 64 (v := Value.bool (d.x.day != d.y.day)) (by kernel_rfl) (by kernel_rfl) (by kernel_rfl) (fun _ => by kernel_rfl)
theorem ds65  : d.Φ W 65 := d_pure d W 65 (v := Value.agg #[Value.string ⟨#[100, 97, 121]⟩, Value.bool (d.x.day != d.y.day)]) (by kernel_rfl) (by kernel_rfl) (by kernel_rfl) (fun _ => by kernel_rfl)
theorem ds66  : d.Φ W 66 := d_pure d W 66 (v := Value.pointer (some ⟨d.g, 1, none⟩)) (by kernel_rfl) (by kernel_rfl) (by kernel_rfl) (fun _ => by kernel_rfl)
theorem ds67  : d.Φ W 67 := d_pure d W 67 (v := Value.pointer (some ⟨d.g, 12, none⟩)) (by kernel_rfl) (by kernel_rfl) (by kernel_rfl) (fun _ => by kernel_rfl)
theorem ds68 (K : d.Knows W) : d.Φ W 68 := d_load d W 68 (t := 3) (ad := ⟨d.g, 12, none⟩) (v := Value.int .i64 (d.x.trade)) (by kernel_rfl) (by kernel_rfl) (by kernel_rfl) (by kernel_rfl) (fun _ _ hw => load_int (d_cell d W hw K.xtrade))
theorem ds69  : d.Φ W 69 := d_pure d W 69 (v := Value.pointer (some ⟨d.g + 1, 1, none⟩)) (by kernel_rfl) (by kernel_rfl) (by kernel_rfl) (fun _ => by kernel_rfl)
theorem ds70  : d.Φ W 70 := d_pure d W 70 (v := Value.pointer (some ⟨d.g + 1, 12, none⟩)) (by kernel_rfl) (by kernel_rfl) (by kernel_rfl) (fun _ => by kernel_rfl)
theorem ds71 (K : d.Knows W) : d.Φ W 71 := d_load d W 71 (t := 3) (ad := ⟨d.g + 1, 12, none⟩) (v := Value.int .i64 (d.y.trade)) (by kernel_rfl) (by kernel_rfl) (by kernel_rfl) (by kernel_rfl) (fun _ _ hw => load_int (d_cell d W hw K.ytrade))
theorem ds72  : d.Φ W 72 := d_pure d W 72 (v := Value.bool (d.x.trade != d.y.trade)) (by kernel_rfl) (by kernel_rfl) (by kernel_rfl) (fun _ => by kernel_rfl)
theorem ds73  : d.Φ W 73 := d_pure d W 73 (v := Value.agg #[Value.string ⟨#[116, 114, 97, 100, 101]⟩, Value.bool (d.x.trade != d.y.trade)]) (by kernel_rfl) (by kernel_rfl) (by kernel_rfl) (fun _ => by kernel_rfl)
theorem ds74  : d.Φ W 74 := d_pure d W 74 (v := Value.int .i64 (d.close)) (by kernel_rfl) (by kernel_rfl) (by kernel_rfl) (fun _ => by kernel_rfl)
theorem ds75  : d.Φ W 75 := d_pure d W 75 (v := Value.bool (decide (d.close < 0))) (by kernel_rfl) (by kernel_rfl) (by kernel_rfl) (fun _ => by kernel_rfl)
theorem ds76 (HB : d.Bs) : d.Φ W 76 := d_pure d W 76 (v := Value.bool (d.b3)) (by kernel_rfl) (by kernel_rfl) (by kernel_rfl) (fun _ => by rw [HB.b3]; kernel_rfl)
theorem ds77  : d.Φ W 77 := by
  obtain ⟨x, y, X, Y, close, far, g, n, b1, b2, b3, b4, b5⟩ := d
  cases b3
  · exact d_pure _ W 77 (v := Value.pointer (some ⟨g, 1, none⟩)) (by kernel_rfl) (by kernel_rfl) (by kernel_rfl) (fun _ => by kernel_rfl)
  · exact d_skip _ W 77 (by kernel_rfl) (by kernel_rfl) (by kernel_rfl)
theorem ds78  : d.Φ W 78 := by
  obtain ⟨x, y, X, Y, close, far, g, n, b1, b2, b3, b4, b5⟩ := d
  cases b3
  · exact d_pure _ W 78 (v := Value.pointer (some ⟨g, 10, none⟩)) (by kernel_rfl) (by kernel_rfl) (by kernel_rfl) (fun _ => by kernel_rfl)
  · exact d_skip _ W 78 (by kernel_rfl) (by kernel_rfl) (by kernel_rfl)
theorem ds79 (K : d.Knows W) : d.Φ W 79 := by
  obtain ⟨x, y, X, Y, close, far, g, n, b1, b2, b3, b4, b5⟩ := d
  cases b3
  · exact d_load _ W 79 (t := 3) (ad := ⟨g, 10, none⟩) (v := Value.int .i64 (x.am)) (by kernel_rfl) (by kernel_rfl) (by kernel_rfl) (by kernel_rfl) (fun _ _ hw => load_int (d_cell _ W hw K.xam))
  · exact d_skip _ W 79 (by kernel_rfl) (by kernel_rfl) (by kernel_rfl)
theorem ds80  : d.Φ W 80 := by
  obtain ⟨x, y, X, Y, close, far, g, n, b1, b2, b3, b4, b5⟩ := d
  cases b3
  · exact d_pure _ W 80 (v := Value.pointer (some ⟨g + 1, 1, none⟩)) (by kernel_rfl) (by kernel_rfl) (by kernel_rfl) (fun _ => by kernel_rfl)
  · exact d_skip _ W 80 (by kernel_rfl) (by kernel_rfl) (by kernel_rfl)
theorem ds81  : d.Φ W 81 := by
  obtain ⟨x, y, X, Y, close, far, g, n, b1, b2, b3, b4, b5⟩ := d
  cases b3
  · exact d_pure _ W 81 (v := Value.pointer (some ⟨g + 1, 10, none⟩)) (by kernel_rfl) (by kernel_rfl) (by kernel_rfl) (fun _ => by kernel_rfl)
  · exact d_skip _ W 81 (by kernel_rfl) (by kernel_rfl) (by kernel_rfl)
theorem ds82 (K : d.Knows W) : d.Φ W 82 := by
  obtain ⟨x, y, X, Y, close, far, g, n, b1, b2, b3, b4, b5⟩ := d
  cases b3
  · exact d_load _ W 82 (t := 3) (ad := ⟨g + 1, 10, none⟩) (v := Value.int .i64 (y.am)) (by kernel_rfl) (by kernel_rfl) (by kernel_rfl) (by kernel_rfl) (fun _ _ hw => load_int (d_cell _ W hw K.yam))
  · exact d_skip _ W 82 (by kernel_rfl) (by kernel_rfl) (by kernel_rfl)
theorem ds83 (HF : d.Far) : d.Φ W 83 := by
  obtain ⟨x, y, X, Y, close, far, g, n, b1, b2, b3, b4, b5⟩ := d
  cases b3
  · exact d_call _ W 83 (by kernel_rfl) (by kernel_rfl) (by kernel_rfl) (fun _ => by kernel_rfl) HF
  · exact d_skip _ W 83 (by kernel_rfl) (by kernel_rfl) (by kernel_rfl)
theorem ds84  : d.Φ W 84 := by
  obtain ⟨x, y, X, Y, close, far, g, n, b1, b2, b3, b4, b5⟩ := d
  cases b3
  · exact d_pure _ W 84 (v := Value.int .i64 (close)) (by kernel_rfl) (by kernel_rfl) (by kernel_rfl) (fun _ => by kernel_rfl)
  · exact d_skip _ W 84 (by kernel_rfl) (by kernel_rfl) (by kernel_rfl)
theorem ds85  : d.Φ W 85 := by
  obtain ⟨x, y, X, Y, close, far, g, n, b1, b2, b3, b4, b5⟩ := d
  cases b3
  · exact d_pure _ W 85 (v := Value.int .i64 (if (0 : Int) > close then 0 else close)) (by kernel_rfl) (by kernel_rfl) (by kernel_rfl) (fun _ => by kernel_rfl)
  · exact d_skip _ W 85 (by kernel_rfl) (by kernel_rfl) (by kernel_rfl)
theorem ds86  : d.Φ W 86 := by
  obtain ⟨x, y, X, Y, close, far, g, n, b1, b2, b3, b4, b5⟩ := d
  cases b3
  · exact d_pure _ W 86 (v := Value.int .u64 (IntKind.u64.wrap (if (0 : Int) > close then 0 else close))) (by kernel_rfl) (by kernel_rfl) (by kernel_rfl) (fun _ => by kernel_rfl)
  · exact d_skip _ W 86 (by kernel_rfl) (by kernel_rfl) (by kernel_rfl)
theorem ds87  : d.Φ W 87 := by
  obtain ⟨x, y, X, Y, close, far, g, n, b1, b2, b3, b4, b5⟩ := d
  cases b3
  · exact d_pure _ W 87 (v := Value.bool (decide (IntKind.u64.wrap (if (0 : Int) > close then 0 else close) < far))) (by kernel_rfl) (by kernel_rfl) (by kernel_rfl) (fun _ => by kernel_rfl)
  · exact d_skip _ W 87 (by kernel_rfl) (by kernel_rfl) (by kernel_rfl)
theorem ds88  : d.Φ W 88 := by
  obtain ⟨x, y, X, Y, close, far, g, n, b1, b2, b3, b4, b5⟩ := d
  cases b3
  · exact d_pure _ W 88 (v := Value.bool ((false) || (decide (IntKind.u64.wrap (if (0 : Int) > close then 0 else close) < far)))) (by kernel_rfl) (by kernel_rfl) (by kernel_rfl) (fun _ => by kernel_rfl)
  · exact d_pure _ W 88 (v := Value.bool ((true) || (decide (IntKind.u64.wrap (if (0 : Int) > close then 0 else close) < far)))) (by kernel_rfl) (by kernel_rfl) (by kernel_rfl) (fun _ => by kernel_rfl)
theorem ds89  : d.Φ W 89 := d_pure d W 89 (v := Value.agg #[Value.string ⟨#[97, 109, 111, 117, 110, 116]⟩, Value.bool ((d.b3) || (decide (IntKind.u64.wrap (if (0 : Int) > d.close then 0 else d.close) < d.far)))]) (by kernel_rfl) (by kernel_rfl) (by kernel_rfl) (fun _ => by kernel_rfl)
theorem ds90  : d.Φ W 90 := d_pure d W 90 (v := Value.pointer (some ⟨d.g, 1, none⟩)) (by kernel_rfl) (by kernel_rfl) (by kernel_rfl) (fun _ => by kernel_rfl)
theorem ds91  : d.Φ W 91 := d_pure d W 91 (v := Value.pointer (some ⟨d.g, 8, none⟩)) (by kernel_rfl) (by kernel_rfl) (by kernel_rfl) (fun _ => by kernel_rfl)
theorem ds92 (K : d.Knows W) : d.Φ W 92 := d_load d W 92 (t := 9) (ad := ⟨d.g, 8, none⟩) (v := Value.string (d.x.ref)) (by kernel_rfl) (by kernel_rfl) (by kernel_rfl) (by kernel_rfl) (fun _ _ hw => load_str (d_cell d W hw K.xref))
theorem ds93  : d.Φ W 93 := d_pure d W 93 (v := Value.pointer (some ⟨d.g + 1, 1, none⟩)) (by kernel_rfl) (by kernel_rfl) (by kernel_rfl) (fun _ => by kernel_rfl)
theorem ds94  : d.Φ W 94 := d_pure d W 94 (v := Value.pointer (some ⟨d.g + 1, 8, none⟩)) (by kernel_rfl) (by kernel_rfl) (by kernel_rfl) (fun _ => by kernel_rfl)
theorem ds95 (K : d.Knows W) : d.Φ W 95 := d_load d W 95 (t := 9) (ad := ⟨d.g + 1, 8, none⟩) (v := Value.string (d.y.ref)) (by kernel_rfl) (by kernel_rfl) (by kernel_rfl) (by kernel_rfl) (fun _ _ hw => load_str (d_cell d W hw K.yref))
theorem ds96  : d.Φ W 96 := d_pure d W 96 (v := Value.bool (decide (d.x.ref ≠ d.y.ref))) (by kernel_rfl) (by kernel_rfl) (by kernel_rfl) (fun w => s_ne (a := d.x.ref) (b := d.y.ref) (w := w) (by kernel_rfl))
theorem ds97 (HB : d.Bs) : d.Φ W 97 := d_pure d W 97 (v := Value.bool (d.b4)) (by kernel_rfl) (by kernel_rfl) (by kernel_rfl) (fun _ => by rw [HB.b4]; kernel_rfl)
theorem ds98  : d.Φ W 98 := by
  obtain ⟨x, y, X, Y, close, far, g, n, b1, b2, b3, b4, b5⟩ := d
  cases b4
  · exact d_skip _ W 98 (by kernel_rfl) (by kernel_rfl) (by kernel_rfl)
  · exact d_pure _ W 98 (v := Value.pointer (some ⟨g, 1, none⟩)) (by kernel_rfl) (by kernel_rfl) (by kernel_rfl) (fun _ => by kernel_rfl)
theorem ds99  : d.Φ W 99 := by
  obtain ⟨x, y, X, Y, close, far, g, n, b1, b2, b3, b4, b5⟩ := d
  cases b4
  · exact d_skip _ W 99 (by kernel_rfl) (by kernel_rfl) (by kernel_rfl)
  · exact d_pure _ W 99 (v := Value.pointer (some ⟨g, 8, none⟩)) (by kernel_rfl) (by kernel_rfl) (by kernel_rfl) (fun _ => by kernel_rfl)
theorem ds100 (K : d.Knows W) : d.Φ W 100 := by
  obtain ⟨x, y, X, Y, close, far, g, n, b1, b2, b3, b4, b5⟩ := d
  cases b4
  · exact d_skip _ W 100 (by kernel_rfl) (by kernel_rfl) (by kernel_rfl)
  · exact d_load _ W 100 (t := 9) (ad := ⟨g, 8, none⟩) (v := Value.string (x.ref)) (by kernel_rfl) (by kernel_rfl) (by kernel_rfl) (by kernel_rfl) (fun _ _ hw => load_str (d_cell _ W hw K.xref))
theorem ds101  : d.Φ W 101 := by
  obtain ⟨x, y, X, Y, close, far, g, n, b1, b2, b3, b4, b5⟩ := d
  cases b4
  · exact d_skip _ W 101 (by kernel_rfl) (by kernel_rfl) (by kernel_rfl)
  · exact d_pure _ W 101 (v := Value.bool (decide (x.ref ≠ ⟨#[]⟩))) (by kernel_rfl) (by kernel_rfl) (by kernel_rfl) (fun w => s_ne (a := x.ref) (b := ⟨#[]⟩) (w := w) (by kernel_rfl))
theorem ds102  : d.Φ W 102 := by
  obtain ⟨x, y, X, Y, close, far, g, n, b1, b2, b3, b4, b5⟩ := d
  cases b4
  · exact d_pure _ W 102 (v := Value.bool ((false) && (decide (x.ref ≠ ⟨#[]⟩)))) (by kernel_rfl) (by kernel_rfl) (by kernel_rfl) (fun _ => by kernel_rfl)
  · exact d_pure _ W 102 (v := Value.bool ((true) && (decide (x.ref ≠ ⟨#[]⟩)))) (by kernel_rfl) (by kernel_rfl) (by kernel_rfl) (fun _ => by kernel_rfl)
theorem ds103 (HB : d.Bs) : d.Φ W 103 := d_pure d W 103 (v := Value.bool (d.b5)) (by kernel_rfl) (by kernel_rfl) (by kernel_rfl) (fun _ => by rw [HB.b5]; kernel_rfl)
theorem ds104  : d.Φ W 104 := by
  obtain ⟨x, y, X, Y, close, far, g, n, b1, b2, b3, b4, b5⟩ := d
  cases b5
  · exact d_skip _ W 104 (by kernel_rfl) (by kernel_rfl) (by kernel_rfl)
  · exact d_pure _ W 104 (v := Value.pointer (some ⟨g + 1, 1, none⟩)) (by kernel_rfl) (by kernel_rfl) (by kernel_rfl) (fun _ => by kernel_rfl)
theorem ds105  : d.Φ W 105 := by
  obtain ⟨x, y, X, Y, close, far, g, n, b1, b2, b3, b4, b5⟩ := d
  cases b5
  · exact d_skip _ W 105 (by kernel_rfl) (by kernel_rfl) (by kernel_rfl)
  · exact d_pure _ W 105 (v := Value.pointer (some ⟨g + 1, 8, none⟩)) (by kernel_rfl) (by kernel_rfl) (by kernel_rfl) (fun _ => by kernel_rfl)
theorem ds106 (K : d.Knows W) : d.Φ W 106 := by
  obtain ⟨x, y, X, Y, close, far, g, n, b1, b2, b3, b4, b5⟩ := d
  cases b5
  · exact d_skip _ W 106 (by kernel_rfl) (by kernel_rfl) (by kernel_rfl)
  · exact d_load _ W 106 (t := 9) (ad := ⟨g + 1, 8, none⟩) (v := Value.string (y.ref)) (by kernel_rfl) (by kernel_rfl) (by kernel_rfl) (by kernel_rfl) (fun _ _ hw => load_str (d_cell _ W hw K.yref))
theorem ds107  : d.Φ W 107 := by
  obtain ⟨x, y, X, Y, close, far, g, n, b1, b2, b3, b4, b5⟩ := d
  cases b5
  · exact d_skip _ W 107 (by kernel_rfl) (by kernel_rfl) (by kernel_rfl)
  · exact d_pure _ W 107 (v := Value.bool (decide (y.ref ≠ ⟨#[]⟩))) (by kernel_rfl) (by kernel_rfl) (by kernel_rfl) (fun w => s_ne (a := y.ref) (b := ⟨#[]⟩) (w := w) (by kernel_rfl))
theorem ds108  : d.Φ W 108 := by
  obtain ⟨x, y, X, Y, close, far, g, n, b1, b2, b3, b4, b5⟩ := d
  cases b5
  · exact d_pure _ W 108 (v := Value.bool ((false) && (decide (y.ref ≠ ⟨#[]⟩)))) (by kernel_rfl) (by kernel_rfl) (by kernel_rfl) (fun _ => by kernel_rfl)
  · exact d_pure _ W 108 (v := Value.bool ((true) && (decide (y.ref ≠ ⟨#[]⟩)))) (by kernel_rfl) (by kernel_rfl) (by kernel_rfl) (fun _ => by kernel_rfl)
theorem ds109  : d.Φ W 109 := d_pure d W 109 (v := Value.agg #[Value.string ⟨#[114, 101, 102]⟩, Value.bool ((d.b5) && (decide (d.y.ref ≠ ⟨#[]⟩)))]) (by kernel_rfl) (by kernel_rfl) (by kernel_rfl) (fun _ => by kernel_rfl)
theorem ds111  : d.Φ W 111 := d_pure d W 111 (v := Value.int .i64 (10)) (by kernel_rfl) (by kernel_rfl) (by kernel_rfl) (fun _ => by kernel_rfl)
theorem ds112  : d.Φ W 112 := d_pure d W 112 (v := Value.int .i64 (0)) (by kernel_rfl) (by kernel_rfl) (by kernel_rfl) (fun _ => by kernel_rfl)
set_option maxRecDepth 100000 in
theorem d_all (K : d.Knows W) (HF : d.Far) (HB : d.Bs) : ∀ i, i < dOps.size → i ≠ 110 → ∀ b w, d.C W b w → stepAt Try.prog dOps d.F i (d.C W b) w := by
  have h : stepsFrom (d.Φ W) 0 113 := ⟨ds0 d W , ds1 d W K, ds2 d W , ds3 d W HB, ds4 d W , ds5 d W K, ds6 d W , ds7 d W , ds8 d W , ds9 d W , ds10 d W , ds11 d W K, ds12 d W , ds13 d W , ds14 d W K, ds15 d W , ds16 d W , ds17 d W , ds18 d W , ds19 d W K, ds20 d W , ds21 d W , ds22 d W K, ds23 d W , ds24 d W HB, ds25 d W , ds26 d W , ds27 d W K, ds28 d W , ds29 d W , ds30 d W K, ds31 d W , ds32 d W , ds33 d W , ds34 d W , ds35 d W , ds36 d W K, ds37 d W , ds38 d W , ds39 d W K, ds40 d W , ds41 d W , ds42 d W , ds43 d W , ds44 d W K, ds45 d W , ds46 d W , ds47 d W K, ds48 d W , ds49 d W , ds50 d W , ds51 d W , ds52 d W K, ds53 d W , ds54 d W , ds55 d W K, ds56 d W , ds57 d W , ds58 d W , ds59 d W , ds60 d W K, ds61 d W , ds62 d W , ds63 d W K, ds64 d W , ds65 d W , ds66 d W , ds67 d W , ds68 d W K, ds69 d W , ds70 d W , ds71 d W K, ds72 d W , ds73 d W , ds74 d W , ds75 d W , ds76 d W HB, ds77 d W , ds78 d W , ds79 d W K, ds80 d W , ds81 d W , ds82 d W K, ds83 d W HF, ds84 d W , ds85 d W , ds86 d W , ds87 d W , ds88 d W , ds89 d W , ds90 d W , ds91 d W , ds92 d W K, ds93 d W , ds94 d W , ds95 d W K, ds96 d W , ds97 d W HB, ds98 d W , ds99 d W , ds100 d W K, ds101 d W , ds102 d W , ds103 d W HB, ds104 d W , ds105 d W , ds106 d W K, ds107 d W , ds108 d W , ds109 d W , (fun h => absurd rfl h), ds111 d W , ds112 d W , trivial⟩
  intro i hi
  rw [dsize] at hi
  exact stepsFrom_all 113 0 h i (Nat.zero_le _) (by omega)
theorem d_last (hn : W.heap.size = d.n) : ∀ w, d.C W false w → stepAt Try.prog dOps d.F 110 (d.C W true) w := by
  rintro w ⟨n, rfl⟩
  have h1 : (execOp d.F.eval (dOps.getD 110 default)).run Try.prog (W.drewN n) = .ok (.value (.slice (some ⟨W.heap.size, 0, none⟩) 10 10)) ((W.alloc (.cells d.cells.toArray 85)).drewN n) := by kernel_rfl
  have h2 : slotV d.F (dOps.getD 110 default).dst = .slice (some ⟨d.n, 0, none⟩) 10 10 := by kernel_rfl
  have h3 : dOps[110]? = some (dOps.getD 110 default) := by kernel_rfl
  have h4 : Region.wanted (dOps.getD 110 default) (yielded dOps d.F.tmps) = true := by kernel_rfl
  unfold stepAt
  rw [h3]
  refine ⟨fun _ => ?_, fun h => by rw [h4] at h; cases h⟩
  show Gives _ _ _ ((execOp d.F.eval (dOps.getD 110 default)).run Try.prog (W.drewN n))
  rw [h1, h2, ← hn]
  exact ⟨⟨n, rfl⟩, rfl⟩
/-- The region. -/
theorem d_region {id : Nat} {ops' : Array Oper} {Q : Exit → Act → World → Prop} (he : ops' = dOps) (hn : W.heap.size = d.n) (K : d.Knows W) (HF : d.Far) (HB : d.Bs) (hend : ∀ n, Q .normal d.F ((W.alloc (.cells d.cells.toArray 85)).drewN n)) : (Code.region id ops' true).wp Try.prog Q d.F0 W := by
  refine wp_cert (C := d.C W) 110 he (by kernel_rfl) (by kernel_rfl) (by rw [dsize]; omega) (by kernel_rfl) (by kernel_rfl) (by kernel_rfl) ?_ ⟨1, rfl⟩ (d_all d W K HF HB) (d_last d W hn) ?_
  · intro t ht
    rcases Nat.lt_or_ge t 10 with h | h
    · match t, h with
      | 0, _ => rfl
      | 1, _ => rfl
      | 2, _ => rfl
      | 3, _ => rfl
      | 4, _ => rfl
      | 5, _ => rfl
      | 6, _ => rfl
      | 7, _ => rfl
      | 8, _ => rfl
      | 9, _ => rfl
    · have hd : ∀ t, t < 123 → 10 ≤ t → isDst dOps t = true := by
        have h0 : (List.range 123).all (fun t => decide (t < 10) || isDst dOps t) = true := by kernel_rfl
        intro t h1 h2
        have := List.all_eq_true.1 h0 t (List.mem_range.2 h1)
        simp only [Bool.or_eq_true, decide_eq_true_eq] at this
        rcases this with h3 | h3
        · omega
        · exact h3
      rcases Nat.lt_or_ge t 123 with h2 | h2
      · rw [hd t h2 h] at ht; cases ht
      · rcases Nat.lt_or_ge t 135 with h3 | h3
        · obtain ⟨k, rfl⟩ : ∃ k, t = 123 + k := ⟨t - 123, by omega⟩
          match k, (show k < 12 by omega) with
          | 0, _ => rfl
          | 1, _ => rfl
          | 2, _ => rfl
          | 3, _ => rfl
          | 4, _ => rfl
          | 5, _ => rfl
          | 6, _ => rfl
          | 7, _ => rfl
          | 8, _ => rfl
          | 9, _ => rfl
          | 10, _ => rfl
          | 11, _ => rfl
        · rw [Array.getElem?_eq_none (show d.F0.tmps.size ≤ t from h3), Array.getElem?_eq_none (show d.F.tmps.size ≤ t from h3)]
  · rintro w ⟨n, rfl⟩
    exact hend n
set_option maxRecDepth 100000 in
/-- The same, what nobody asks for any more being letters. -/
theorem d_region_l {id : Nat} {ops' : Array Oper} {Q : Exit → Act → World → Prop} (he : ops' = dOps) (hn : W.heap.size = d.n) (K : d.Knows W) (HF : d.Far) (HB : d.Bs) (hend : ∀ (n : Nat) (s10 s11 s12 s13 s14 s15 s16 s17 s18 s19 s20 s21 s22 s23 s24 s25 s26 s27 s28 s29 s30 s31 s32 s33 s34 s35 s36 s37 s38 s39 s40 s41 s42 s43 s44 s45 s46 s47 s48 s49 s50 s51 s52 s53 s54 s55 s56 s57 s58 s59 s60 s61 s62 s63 s64 s65 s66 s67 s68 s69 s70 s71 s72 s73 s74 s75 s76 s77 s78 s79 s80 s81 s82 s83 s84 s85 s86 s87 s88 s89 s90 s91 s92 s93 s94 s95 s96 s97 s98 s99 s100 s101 s102 s103 s104 s105 s106 s107 s108 s109 s110 s111 s112 s113 s114 s115 s116 s117 s118 s119 : Value), Q .normal ⟨#[Value.agg d.X.toArray, Value.agg d.Y.toArray, Value.int .i64 d.close, Value.pointer (some ⟨d.g, 0, none⟩), Value.pointer (some ⟨d.g + 1, 0, none⟩), undef, Value.slice none 0 0, Value.slice none 0 0, undef, undef, s10, s11, s12, s13, s14, s15, s16, s17, s18, s19, s20, s21, s22, s23, s24, s25, s26, s27, s28, s29, s30, s31, s32, s33, s34, s35, s36, s37, s38, s39, s40, s41, s42, s43, s44, s45, s46, s47, s48, s49, s50, s51, s52, s53, s54, s55, s56, s57, s58, s59, s60, s61, s62, s63, s64, s65, s66, s67, s68, s69, s70, s71, s72, s73, s74, s75, s76, s77, s78, s79, s80, s81, s82, s83, s84, s85, s86, s87, s88, s89, s90, s91, s92, s93, s94, s95, s96, s97, s98, s99, s100, s101, s102, s103, s104, s105, s106, s107, s108, s109, s110, s111, s112, s113, s114, s115, s116, s117, s118, s119, Value.slice (some ⟨d.n, 0, none⟩) 10 10, Value.int .i64 (10), Value.int .i64 (0), undef, undef, undef, undef, undef, undef, undef, undef, undef, undef, undef, undef], []⟩ ((W.alloc (.cells d.cells.toArray 85)).drewN n)) : (Code.region id ops' true).wp Try.prog Q d.F0 W :=
  d_region d W he hn K HF HB fun n => hend n _ _ _ _ _ _ _ _ _ _ _ _ _ _ _ _ _ _ _ _ _ _ _ _ _ _ _ _ _ _ _ _ _ _ _ _ _ _ _ _ _ _ _ _ _ _ _ _ _ _ _ _ _ _ _ _ _ _ _ _ _ _ _ _ _ _ _ _ _ _ _ _ _ _ _ _ _ _ _ _ _ _ _ _ _ _ _ _ _ _ _ _ _ _ _ _ _ _ _ _ _ _ _ _ _ _ _ _ _ _
end
end Go.Proofs.Ytjanmnjmnnnfmaa
