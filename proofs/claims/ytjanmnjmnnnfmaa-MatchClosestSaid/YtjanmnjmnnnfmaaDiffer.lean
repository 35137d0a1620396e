/- match.Differ and match.Fits. -/
import Derived.Test.YtjanmnjmnnnfmaaFar
namespace Go.Proofs.Ytjanmnjmnnnfmaa
open Go.RowKit

def strs (l : List ByteArray) : List Value := l.map Value.string
/-- What may be amiss, and whether it is. -/
def chk (x y : Ins) (close : Int) : List (ByteArray × Bool) :=
  [(⟨#[115, 116, 97, 116, 101]⟩, (x.state != 0) || (y.state != 0)), (⟨#[115, 105, 100, 101]⟩, x.deliver == y.deliver), (⟨#[112, 97, 114, 116, 121]⟩, decide (x.party ≠ y.other) || decide (y.party ≠ x.other)),
   (⟨#[97, 115, 115, 101, 116]⟩, decide (x.asset ≠ y.asset)), (⟨#[113, 116, 121]⟩, x.qty != y.qty), (⟨#[99, 99, 121]⟩, decide (x.ccy ≠ y.ccy)), (⟨#[100, 97, 121]⟩, x.day != y.day), (⟨#[116, 114, 97, 100, 101]⟩, x.trade != y.trade),
   (⟨#[97, 109, 111, 117, 110, 116]⟩, decide (close < 0) || decide (close < farN x.am y.am)), (⟨#[114, 101, 102]⟩, decide (x.ref ≠ y.ref) && decide (x.ref ≠ ⟨#[]⟩) && decide (y.ref ≠ ⟨#[]⟩))]
def namesOf (l : List (ByteArray × Bool)) : List ByteArray := (l.filter (·.2)).map (·.1)
def differP (x y : Ins) (close : Int) : List ByteArray := namesOf (chk x y close)
def fitsP (x y : Ins) (close : Int) : Bool := (differP x y close).isEmpty
theorem namesOf_snoc (l : List (ByteArray × Bool)) (p : ByteArray × Bool) : namesOf (l ++ [p]) = if p.2 then namesOf l ++ [p.1] else namesOf l := by
  unfold namesOf
  rw [List.filter_append, List.map_append]
  obtain ⟨a, b⟩ := p
  cases b <;> simp
theorem namesOf_len (l : List (ByteArray × Bool)) : (namesOf l).length ≤ l.length := by
  unfold namesOf
  rw [List.length_map]
  exact List.length_filter_le _ _
def flatC (l : List (ByteArray × Bool)) : List Value := l.flatMap fun p => [Value.string p.1, Value.bool p.2]
theorem flat_at : ∀ (l : List (ByteArray × Bool)) (i : Nat) (h : i < l.length), (flatC l)[i * 2]? = some (.string l[i].1) ∧ (flatC l)[i * 2 + 1]? = some (.bool l[i].2)
  | [], i, h => by simp at h
  | p :: l, 0, _ => by simp [flatC]
  | p :: l, i + 1, h => by
    have := flat_at l i (by simpa using h)
    simpa [flatC, Nat.add_mul] using this

def dvOf (x y : Ins) (X Y : List Value) (close : Int) (w : World) : DV :=
  ⟨x, y, X, Y, close, farN x.am y.am, w.heap.size, w.heap.size + 2, x.state != 0, decide (x.party ≠ y.other), decide (close < 0), decide (x.ref ≠ y.ref), decide (x.ref ≠ y.ref) && decide (x.ref ≠ ⟨#[]⟩)⟩
theorem dv_cells (x y : Ins) (X Y : List Value) (close : Int) (w : World) (hc : bd close) : (dvOf x y X Y close w).cells = flatC (chk x y close) := by
  have h : (decide (close < 0) || decide (IntKind.u64.wrap (if (0 : Int) > close then 0 else close) < (farN x.am y.am : Int))) = (decide (close < 0) || decide (close < farN x.am y.am)) := by
    by_cases h0 : close < 0
    · simp [h0]
    · have : IntKind.u64.wrap (if (0 : Int) > close then 0 else close) = close := by
        rw [if_neg h0, IntKind.wrap_u64]
        unfold bd at hc
        omega
      rw [this]
  simp only [DV.cells, dvOf, flatC, chk, List.flatMap_cons, List.flatMap_nil, List.cons_append, List.nil_append, List.cons.injEq, Value.bool.injEq, true_and, and_true]
  refine ⟨by congr, by congr, by congr, ?_, by congr⟩
  first | exact h | (simpa using h)

/-- The rows of the two instructions, as Differ and Fits find them. -/
theorem two_rows (w : World) (X Y : List Value) (j : Nat) :
    ((w.alloc (.cells X.toArray 25)).alloc (.cells Y.toArray 25)).cell? ⟨w.heap.size, j, none⟩ = X[j]? ∧
    ((w.alloc (.cells X.toArray 25)).alloc (.cells Y.toArray 25)).cell? ⟨w.heap.size + 1, j, none⟩ = Y[j]? := by
  constructor
  · rw [blk_cell (blk_alloc (blk_new w _) _) j]; simp
  · have h1 := blk_cell (blk_new (w.alloc (.cells X.toArray 25)) (.cells Y.toArray 25)) j
    rw [show (w.alloc (.cells X.toArray 25)).heap.size = w.heap.size + 1 by simp] at h1
    rw [h1]; simp

def DiffRel (w : World) (C : List (ByteArray × Bool)) (left : Nat) (s7 s122 : Value) (W : World) : Prop :=
  ∃ i : Nat, i ≤ C.length ∧ left = C.length - i ∧ s122 = .int .i64 i ∧ W.ownsRow (w.heap.size + 3) 9 1 s7 (namesOf (C.take i)).length (strs (namesOf (C.take i))) ∧
    W.heap[w.heap.size + 2]? = some (.cells (flatC C).toArray 85 (0, 0)) ∧ Below w.heap.size w W
theorem info_str : (Try.prog.info? 9).map (fun i => (i.zero, i.size, i.bytes)) = some (some (.string ⟨#[]⟩), 1, 16) := by kernel_rfl

section
variable {P : Program} {ops : Array Oper} {rest : List Oper} {o : Oper} {a : Act} {Q : Exit → Act → World → Prop}
/-- 'append(s, x)', the new cell's place told as a number. -/
theorem wp_append_one_at (W : World) (gx : Nat) (hgx : W.heap.size = gx) (hgd : o.guard = none) (s x : Operand) (t e : TypeId)
    (ho : o.op = .call { callee := .builtin .append, args := #[s, x], argTypes := #[t, t] })
    (ht : P.underlying t = some (.slice e)) (z : Value) (bytes : Nat) (hinfo : (P.info? e).map (fun i => (i.zero, i.size, i.bytes)) = some (some z, 1, bytes)) (hz : z.cells.size = 1)
    (base : Nat) (v : Value) (n : Nat) (xs : List Value) (y : Value) (hs : a.eval s = v) (hx : a.eval x = .slice (some ⟨gx, 0, none⟩) 1 1) (h1 : y.oneCell' = true)
    (HO : W.ownsRow base e 1 v n xs) (hbase : base ≤ W.heap.size) (hl : (n + 1) * bytes ≤ 140737488355328) (hn : n + 1 ≤ 140737488355328)
    (h : ∀ v1 w1, w1.ownsRow base e 1 v1 (n + 1) (xs ++ [y]) → W.grownBy w1 v.ownBlock → (v1.ownBlock = v.ownBlock ∨ ∃ b, v1.ownBlock = some b ∧ W.heap.size ≤ b) → wpList P ops Q rest (a.put o.dst v1) w1) :
    wpList P ops Q (o :: rest) a (W.alloc (.cells #[y] e)) := by
  subst hgx
  exact wp_append_one W hgd s x t e ho ht z bytes hinfo hz base v n xs y hs hx h1 HO hbase hl hn h
end

set_option maxHeartbeats 1600000 in
set_option maxRecDepth 100000 in
theorem differ_any (x y : Ins) (X Y : List Value) (close : Int) (w : World) (hX : RowIs x X) (hY : RowIs y Y) (hc : bd close) (hx : bd x.am) (hy : bd y.am) :
    Calls Try.prog 15 #[.agg X.toArray, .agg Y.toArray, .int .i64 close] w fun r w' => (∃ v, r = .returned v ∧ w'.ownsRow (w.heap.size + 3) 9 1 v (differP x y close).length (strs (differP x y close))) ∧ Below w.heap.size w w' := by
  obtain ⟨C, hC⟩ : ∃ C, C = chk x y close := ⟨_, rfl⟩
  have hC10 : C.length = 10 := by rw [hC]; rfl
  have HC := hide hC
  have HDC := hide (dv_cells x y X Y close w hc)
  go_enter Try.func15, Try.ntmps15
  go_wp2_with fail
  obtain ⟨W1, hW1⟩ : ∃ W1, W1 = ((w.alloc (.cells X.toArray 25)).alloc (.cells Y.toArray 25)) := ⟨_, rfl⟩
  have hcell := two_rows w X Y
  rw [← hW1] at hcell ⊢
  have hn : W1.heap.size = w.heap.size + 2 := by rw [hW1]; simp
  have hb1 : Below w.heap.size w W1 := by rw [hW1]; exact ((Below.refl _ w).alloc (Nat.le_refl _) _).alloc (by simp) _
  refine d_region_l (dvOf x y X Y close w) W1 (by kernel_rfl) hn ⟨(hcell 1).1.trans hX.party, (hcell 2).1.trans hX.acc, (hcell 3).1.trans hX.money, (hcell 4).1.trans hX.other, (hcell 5).1.trans hX.deliver, (hcell 6).1.trans hX.asset, (hcell 7).1.trans hX.ccy, (hcell 8).1.trans hX.ref, (hcell 9).1.trans hX.qty, (hcell 10).1.trans hX.am, (hcell 11).1.trans hX.day, (hcell 12).1.trans hX.trade, (hcell 17).1.trans hX.state,
    (hcell 1).2.trans hY.party, (hcell 2).2.trans hY.acc, (hcell 3).2.trans hY.money, (hcell 4).2.trans hY.other, (hcell 5).2.trans hY.deliver, (hcell 6).2.trans hY.asset, (hcell 7).2.trans hY.ccy, (hcell 8).2.trans hY.ref, (hcell 9).2.trans hY.qty, (hcell 10).2.trans hY.am, (hcell 11).2.trans hY.day, (hcell 12).2.trans hY.trade, (hcell 17).2.trans hY.state⟩
    (fun w' => far_any x.am y.am w' hx hy) ⟨rfl, rfl, rfl, rfl, rfl⟩ ?_
  intro n s10 s11 s12 s13 s14 s15 s16 s17 s18 s19 s20 s21 s22 s23 s24 s25 s26 s27 s28 s29 s30 s31 s32 s33 s34 s35 s36 s37 s38 s39 s40 s41 s42 s43 s44 s45 s46 s47 s48 s49 s50 s51 s52 s53 s54 s55 s56 s57 s58 s59 s60 s61 s62 s63 s64 s65 s66 s67 s68 s69 s70 s71 s72 s73 s74 s75 s76 s77 s78 s79 s80 s81 s82 s83 s84 s85 s86 s87 s88 s89 s90 s91 s92 s93 s94 s95 s96 s97 s98 s99 s100 s101 s102 s103 s104 s105 s106 s107 s108 s109 s110 s111 s112 s113 s114 s115 s116 s117 s118 s119
  have hb2 : W1.heap.size = w.heap.size + 2 := hn
  rw [HDC.out, ← hC]
  obtain ⟨W2, hW2⟩ : ∃ W2, W2 = ((W1.alloc (.cells (flatC C).toArray 85)).drewN n) := ⟨_, rfl⟩
  have hblk : W2.heap[w.heap.size + 2]? = some (.cells (flatC C).toArray 85 (0, 0)) := by
    have := blk_new W1 (.cells (flatC C).toArray 85)
    rw [hn] at this
    rw [hW2]; exact this
  have hb3 : Below w.heap.size w W2 := by
    rw [hW2]; exact below_drewN (hb1.alloc (by omega) _) n
  have hsz : w.heap.size + 3 ≤ W2.heap.size := by rw [hW2]; show _ ≤ (W1.alloc _).heap.size; simp; omega
  rw [← hW2]
  clear hW2 hcell hW1 hb1 hn hb2 hC HDC hX hY hc hx hy
  have Hhblk := hide hblk
  have Hhb3 := hide hb3
  clear hblk hb3
  simp only [dvOf]
  go_wp2_with fail
  go_loopg [7, 122] 10 (fun left s7 s122 wx => DiffRel w C left s7 s122 wx)
  case atStart => exact ⟨0, by omega, by omega, rfl, own_nil _ _ _ _, Hhblk.out, Hhb3.out⟩
  case round =>
    obtain ⟨i, hi, hleft, rfl, hown, hblk, hb⟩ := hrel
    rw [hC10] at hi hleft
    by_cases hlt : i < 10
    · have d1 : decide ((i : Int) < 10) = true := by rw [decide_eq_true_iff]; omega
      have hiC : i < C.length := by omega
      obtain ⟨A, c, hs7⟩ := own_slice hown
      subst hs7
      have hf := flat_at C i hiC
      have hsn := namesOf_snoc (C.take i) (C[i]'hiC)
      rw [← List.take_succ_eq_append_getElem hiC] at hsn
      have hnl : (namesOf (C.take i)).length ≤ 10 := Nat.le_trans (namesOf_len _) (by rw [List.length_take]; omega)
      generalize hp : (C[i]'hiC) = p at hf hsn
      obtain ⟨nm, is⟩ := p
      dsimp only at hf hsn
      have c1 : wr.cell? ⟨w.heap.size + 2, i * 2, none⟩ = some (.string nm) := by rw [blk_cell hblk]; simpa using hf.1
      have c2 : wr.cell? ⟨w.heap.size + 2, i * 2 + 1, none⟩ = some (.bool is) := by rw [blk_cell hblk]; simpa using hf.2
      have hszr : w.heap.size + 3 ≤ wr.heap.size := by have := blk_lt hblk; omega
      cases is
      · have Hhown := hide hown
        have Hhblk := hide hblk
        have Hhb := hide hb
        have Hhf := hide hf
        have Hhsn := hide hsn
        have Hhp := hide hp
        clear hown hblk hb hf hsn hp
        go_wp2_with fail
        go_roundg (10 - (i + 1))
        case measure => omega
        case rel =>
          refine ⟨i + 1, by omega, by omega, by go_num, ?_, blk_alloc Hhblk.out _, Hhb.out.alloc (by omega) _⟩
          rw [Hhsn.out, if_neg (by decide)]
          exact own_only Hhown.out ((Only.refl (fun _ => False) wr).alloc _) (fun _ _ h => h)
      · have hown2 := own_only hown ((Only.refl (fun _ => False) wr).alloc (.cells #[.string nm, .bool true] 85)) (fun _ _ h => h)
        have hblk2 := blk_alloc hblk (.cells #[.string nm, .bool true] 85)
        have hb2 := hb.alloc (by omega) (.cells #[.string nm, .bool true] 85)
        have hsz2 : w.heap.size + 3 ≤ (wr.alloc (.cells #[.string nm, .bool true] 85)).heap.size := by simp; omega
        have Hhown := hide hown
        have Hhblk := hide hblk
        have Hhb := hide hb
        have Hhf := hide hf
        have Hhsn := hide hsn
        have Hhp := hide hp
        have Hhown2 := hide hown2
        have Hhblk2 := hide hblk2
        have Hhb2 := hide hb2
        clear hown hblk hb hf hsn hp hown2 hblk2 hb2
        go_wp2_with (at_builtin; (refine wp_append_one_at (wr.alloc (.cells #[.string nm, .bool true] 85)) (wr.heap.size + 1) (by simp) rfl (.tmp 128) (.tmp 131) 30 9 rfl Try.underlying30 (.string ⟨#[]⟩) 16 info_str rfl (w.heap.size + 3) _ _ _ (.string nm) rfl rfl rfl Hhown2.out ?c1 ?c2 ?c3 ?_))
        case c1 => omega
        case c2 => omega
        case c3 => omega
        intro v1 w1 hown1 hg hwh
        obtain ⟨A1, c1, hv1⟩ := own_slice hown1
        subst hv1
        have hne := own_ne Hhown2.out Hhblk2.out (by decide)
        have hblk3 := blk_grown Hhblk2.out hg (fun h => hne h.symm)
        have hb3 : Below w.heap.size w w1 := Hhb2.out.grown hg (by omega) (fun k hk => by have := own_base Hhown2.out k hk; omega)
        have Hhown1 := hide hown1
        have Hhg := hide hg
        have Hhwh := hide hwh
        have Hhblk3 := hide hblk3
        have Hhb3 := hide hb3
        clear hown1 hg hwh hblk3 hb3
        go_wp2_with fail
        go_roundg (10 - (i + 1))
        case measure => omega
        case rel =>
          have e : strs (namesOf (C.take i)) ++ [Value.string nm] = strs (namesOf (C.take (i + 1))) := by rw [Hhsn.out, if_pos trivial]; simp [strs]
          have e2 : (namesOf (C.take i)).length + 1 = (namesOf (C.take (i + 1))).length := by rw [Hhsn.out, if_pos trivial]; simp
          refine ⟨i + 1, by omega, by omega, by go_num, ?_, Hhblk3.out, Hhb3.out⟩
          have h9 := Hhown1.out
          rw [e] at h9
          rw [← e2]
          exact h9
    · have d1 : decide ((i : Int) < 10) = false := by rw [decide_eq_false_iff_not]; omega
      have hi10 : C.take i = C := List.take_of_length_le (by omega)
      rw [hi10] at hown
      obtain ⟨A, c, hs7⟩ := own_slice hown
      subst hs7
      have HD : Hid (namesOf C = differP x y close) := by show namesOf C = _; rw [HC.out]; rfl
      have Hhown := hide hown
      have Hhblk := hide hblk
      have Hhb := hide hb
      have Hhi10 := hide hi10
      clear hown hblk hb hi10
      go_wp2_with fail
      go_ret
      rw [← HD.out]
      exact ⟨⟨_, rfl, Hhown.out⟩, Hhb.out⟩
end Go.Proofs.Ytjanmnjmnnnfmaa
