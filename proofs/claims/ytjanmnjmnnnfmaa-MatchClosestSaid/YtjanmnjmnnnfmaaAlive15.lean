/- complinelaw15.alive. -/
import Derived.Test.YtjanmnjmnnnfmaaBoth
namespace Go.Proofs.Ytjanmnjmnnnfmaa
open Go.RowKit

def ai1 : Ins := { Ins.zero with id := 1, party := ⟨#[80]⟩, other := ⟨#[81]⟩, deliver := true, am := 100 }
def ai2 : Ins := { Ins.zero with id := 2, party := ⟨#[81]⟩, other := ⟨#[80]⟩, am := 97 }
def ai3 : Ins := { Ins.zero with id := 3, party := ⟨#[81]⟩, other := ⟨#[80]⟩, am := 102 }
def ai4 : Ins := { ai3 with id := 4 }
theorem ai_mate : mateP ai1 5 [ai2, ai3, ai4] = (3, true) := by decide +kernel
theorem ai_diff : (differP ai1 ai1 0).length = 2 := by decide +kernel
theorem ai_fit3 : fitsP ai1 ai2 3 = true := by decide +kernel
theorem ai_fit2 : fitsP ai1 ai2 2 = false := by decide +kernel
theorem ai_far : farI ai1 ai2 = 3 := by decide +kernel
theorem run_build3 (W : World) : (Instr.buildSlice 33 3 #[(0, .agg ai2.row.toArray), (1, .agg ai3.row.toArray), (2, .agg ai4.row.toArray)]).run Try.prog W = .ok (.slice (some ⟨W.heap.size, 0, none⟩) 3 3) (W.alloc (.cells (rowsOf [ai2, ai3, ai4]).toArray 25)) := by kernel_rfl
theorem bd_of {x : Int} (h1 : -9223372036854775808 ≤ x) (h2 : x ≤ 9223372036854775807) : bd x := ⟨h1, h2⟩
theorem seen_new (W : World) (d : List Ins) (n : Nat) (hn : d.length = n) : Seen (W.alloc (.cells (rowsOf d).toArray 25)) (some ⟨W.heap.size, 0, none⟩) n d := by
  refine ⟨hn, ?_⟩
  intro ad h j u hu
  cases h
  rw [add_plain, blk_cell (blk_new W _) j]
  simpa using hu

theorem run_slice {o : Oper} {a : Act} {w w' : World} {v : Value} (t : TypeId) (n : Nat) (ps : Array (Nat × Operand)) (ho : o.op = .buildSlice t n ps) (vs : Array (Nat × Value)) (hvs : ps.map (fun (i, x) => (i, a.eval x)) = vs)
    (h : (Instr.buildSlice t n vs).run Try.prog w = .ok v w') : (execOp a.eval o).run Try.prog w = .ok (.value v) w' := by
  unfold execOp
  simp only [ho, Sem.run_bind, hvs, h, Result.andThen_ok, Sem.run_pure]
theorem wp_slice {ops : Array Oper} {rest : List Oper} {o : Oper} {a : Act} {w w' : World} {Q : Exit → Act → World → Prop} {v : Value} (hgd : o.guard = none) (dst : Option Tmp) (hd : o.dst = dst) (t : TypeId) (n : Nat) (ps : Array (Nat × Operand)) (ho : o.op = .buildSlice t n ps) (vs : Array (Nat × Value)) (hvs : ps.map (fun (i, x) => (i, a.eval x)) = vs)
    (h : (Instr.buildSlice t n vs).run Try.prog w = .ok v w') (k : wpList Try.prog ops Q rest (a.put dst v) w') : wpList Try.prog ops Q (o :: rest) a w := by
  subst hd
  refine wpList_plain hgd fun K hK => ?_
  unfold Oper.wp
  rw [run_slice t n ps ho vs hvs h, Oper.upon_value]
  exact hK _ _ k
theorem set_head {W : World} {g : Nat} {X : List Value} (v : Value) (hX : X.length = 21) (h : W.rangeAt g 0 X) : (W.setCell ⟨g, 0, none⟩ v).rangeAt g 0 (X.set 0 v) := by
  intro j u hu
  have hr := h j
  rw [Nat.zero_add] at hr ⊢
  by_cases hj : j = 0
  · subst hj
    rw [List.getElem?_set_self (by omega)] at hu
    cases hu
    exact World.cell?_setCell_same _ _ _ (hr _ (List.getElem?_eq_getElem (by omega)))
  · rw [List.getElem?_set_ne (by omega)] at hu
    rw [World.cell?_setCell_other W ⟨g, 0, none⟩ ⟨g, j, none⟩ v (fun h' => hj (congrArg Addr.off h').symm)]
    exact hr u hu
/-- A place to stop at. -/
def Halt (p : Prop) : Prop := p
theorem halt {p : Prop} (h : Halt p) : p := h
theorem Halt.out {p : Prop} (h : p) : Halt p := h
/-- A new block with an instruction in it. -/
structure Laid (w : World) (k : Nat) (X : List Value) (W : World) : Prop where
  r : W.rangeAt (w.heap.size + k) 0 X
  t : W.there (w.heap.size + k) 0 21
  sz : w.heap.size + k < W.heap.size
theorem Laid.keep {w W W' : World} {k : Nat} {X : List Value} {S : Nat → Prop} (h : Laid w k X W) (ho : Only S W W') (hs : ¬ S (w.heap.size + k)) : Laid w k X W' := ⟨range_only h.r ho hs, there_only h.t ho hs h.sz, Nat.lt_of_lt_of_le h.sz ho.size⟩
theorem Laid.below {w W W' : World} {k : Nat} {X : List Value} (h : Laid w k X W) (hb : Below W.heap.size W W') : Laid w k X W' :=
  h.keep (S := fun _ => False) ⟨hb.os, hb.tape, hb.output, hb.size, fun q hq _ => hb.block q hq⟩ (fun h => h)
theorem laid_new {w W : World} {k : Nat} {X : List Value} (hk : W.heap.size = w.heap.size + k) (hX : X.length = 21) : Laid w k X ((W.alloc (.cells Ins.zero.row.toArray 25)).setCells (w.heap.size + k) 0 X) ∧ Only (fun _ => False) W ((W.alloc (.cells Ins.zero.row.toArray 25)).setCells (w.heap.size + k) 0 X) ∧ ((W.alloc (.cells Ins.zero.row.toArray 25)).setCells (w.heap.size + k) 0 X).heap.size = w.heap.size + k + 1 := by
  have t1 := there_new_at W Ins.zero.row.toArray (w.heap.size + k) hk rfl
  have hr : ((W.alloc (.cells Ins.zero.row.toArray 25)).setCells (w.heap.size + k) 0 X).rangeAt (w.heap.size + k) 0 X := World.rangeAt_setCells_same _ _ _ _ (by rw [hX]; exact t1)
  have hs : ((W.alloc (.cells Ins.zero.row.toArray 25)).setCells (w.heap.size + k) 0 X).heap.size = w.heap.size + k + 1 := by
    have : ∀ (vs : List Value) (o : Nat) (V : World), (V.setCells (w.heap.size + k) o vs).heap.size = V.heap.size := by
      intro vs
      induction vs with
      | nil => intro o V; rfl
      | cons v vs ih => intro o V; rw [World.setCells, ih]; simp [World.setCell]
    rw [this]
    simp [hk]
  exact ⟨⟨hr, World.there_setCells t1 _ _ _, by omega⟩, Only.setCells (w.heap.size + k) (.inr (by omega)) _ _ _ ((Only.refl _ W).alloc _), hs⟩

set_option maxHeartbeats 1600000 in
set_option maxRecDepth 100000 in
theorem alive15 (w : World) : Calls Try.prog 11 #[] w fun r w' => r = .returned (.bool true) ∧ Below w.heap.size w w' := by
  obtain ⟨X1, h1⟩ : ∃ X, X = ai1.row := ⟨_, rfl⟩
  obtain ⟨X2, h2⟩ : ∃ X, X = ai2.row := ⟨_, rfl⟩
  obtain ⟨X3, h3⟩ : ∃ X, X = ai3.row := ⟨_, rfl⟩
  obtain ⟨X4, h4⟩ : ∃ X, X = ai4.row := ⟨_, rfl⟩
  have r1 : RowIs ai1 X1 := by rw [h1]; exact row_is _
  have r2 : RowIs ai2 X2 := by rw [h2]; exact row_is _
  have r3 : RowIs ai3 X3 := by rw [h3]; exact row_is _
  have r4 : RowIs ai4 X4 := by rw [h4]; exact row_is _
  have hbs := run_build3
  rw [← h2, ← h3, ← h4] at hbs
  have h43 : X4 = X3.set 0 (.int .i64 4) := by rw [h4, h3]; rfl
  go_enter Try.func11, Try.ntmps11
  have z1 := h1
  have z2 := h2
  have z3 := h3
  have Hh1 := hide h1
  have Hh2 := hide h2
  have Hh3 := hide h3
  have Hh4 := hide h4
  have Hh43 := hide h43
  have Hhbs := hide hbs
  clear h1 h2 h3 h4 h43 hbs
  clear z1 z2 z3
  go_wp2_with (guard_target =~ wpList _ _ _ (Oper.mk _ (Op.store 25 (.tmp 1) _) _ _ _ _ :: _) _ _; refine wp_store_row rfl _ _ rfl w.heap.size 0 rfl X1 (by rw [Hh1.out]; rfl) r1.len r1.one (there_new_at _ _ _ rfl rfl) (halt ?_))
  change Halt (wpList _ _ _ _ _ ((w.alloc (.cells Ins.zero.row.toArray 25)).setCells w.heap.size 0 X1))
  obtain ⟨l1, o1, s1⟩ := laid_new (w := w) (W := w) (k := 0) (X := X1) rfl r1.len
  rw [Nat.add_zero] at l1 o1 s1
  have b1 := Only.toBelow o1 (Nat.le_refl _) (fun _ h => absurd h id)
  generalize (w.alloc (.cells Ins.zero.row.toArray 25)).setCells w.heap.size 0 X1 = W1 at l1 o1 s1 b1 ⊢
  clear o1
  have Hl1 := hide l1
  have Hb1 := hide b1
  clear l1 b1
  unfold Halt
  go_wp2_with (guard_target =~ wpList _ _ _ (Oper.mk _ (Op.store 25 (.tmp 2) _) _ _ _ _ :: _) _ _; refine wp_store_row rfl _ _ rfl (w.heap.size + 1) 0 rfl X2 (by rw [Hh2.out]; rfl) r2.len r2.one (there_new_at _ _ _ s1 rfl) (halt ?_))
  change Halt (wpList _ _ _ _ _ ((W1.alloc (.cells Ins.zero.row.toArray 25)).setCells (w.heap.size + 1) 0 X2))
  obtain ⟨l2, o2, s2⟩ := laid_new (w := w) (W := W1) (k := 1) (X := X2) s1 r2.len
  have b2 := Only.toBelow o2 (Nat.le_refl _) (fun _ h => absurd h id)
  have l1 := Hl1.out.below b2
  replace b2 := Hb1.out.trans (b2.mono Hb1.out.size)
  generalize (W1.alloc (.cells Ins.zero.row.toArray 25)).setCells (w.heap.size + 1) 0 X2 = W2 at l1 l2 o2 s2 b2 ⊢
  clear o2
  clear Hl1 s1 Hb1
  have Hl1 := hide l1
  have Hl2 := hide l2
  have Hb2 := hide b2
  clear l1 l2 b2
  unfold Halt
  go_wp2_with (guard_target =~ wpList _ _ _ (Oper.mk _ (Op.store 25 (.tmp 3) _) _ _ _ _ :: _) _ _; refine wp_store_row rfl _ _ rfl (w.heap.size + 2) 0 rfl X3 (by rw [Hh3.out]; rfl) r3.len r3.one (there_new_at _ _ _ s2 rfl) (halt ?_))
  change Halt (wpList _ _ _ _ _ ((W2.alloc (.cells Ins.zero.row.toArray 25)).setCells (w.heap.size + 2) 0 X3))
  obtain ⟨l3, o3, s3⟩ := laid_new (w := w) (W := W2) (k := 2) (X := X3) s2 r3.len
  have b3 := Only.toBelow o3 (Nat.le_refl _) (fun _ h => absurd h id)
  have l1 := Hl1.out.below b3
  have l2 := Hl2.out.below b3
  replace b3 := Hb2.out.trans (b3.mono Hb2.out.size)
  generalize (W2.alloc (.cells Ins.zero.row.toArray 25)).setCells (w.heap.size + 2) 0 X3 = W3 at l1 l2 l3 o3 s3 b3 ⊢
  clear o3
  clear Hl1 Hl2 s2 Hb2
  have Hl1 := hide l1
  have Hl2 := hide l2
  have Hl3 := hide l3
  have Hb3 := hide b3
  clear l1 l2 l3 b3
  unfold Halt
  go_wp2_with (first | (guard_target =~ wpList _ _ _ (Oper.mk _ (Op.load 25 (.tmp 3)) _ _ _ _ :: _) _ _; refine wp_load_row (by rfl) _ rfl (w.heap.size + 2) 0 rfl X3 r3.len Hl3.out.r ?_) | (guard_target =~ wpList _ _ _ (Oper.mk _ (Op.store 25 (.tmp 4) _) _ _ _ _ :: _) _ _; refine wp_store_row rfl _ _ rfl (w.heap.size + 3) 0 rfl X3 (by rfl) r3.len r3.one (there_new_at _ _ _ s3 rfl) (halt ?_)))
  change Halt (wpList _ _ _ _ _ ((W3.alloc (.cells Ins.zero.row.toArray 25)).setCells (w.heap.size + 3) 0 X3))
  obtain ⟨l4, o4, s4⟩ := laid_new (w := w) (W := W3) (k := 3) (X := X3) s3 r3.len
  have b4 := Only.toBelow o4 (Nat.le_refl _) (fun _ h => absurd h id)
  have l1 := Hl1.out.below b4
  have l2 := Hl2.out.below b4
  have l3 := Hl3.out.below b4
  replace b4 := Hb3.out.trans (b4.mono Hb3.out.size)
  generalize (W3.alloc (.cells Ins.zero.row.toArray 25)).setCells (w.heap.size + 3) 0 X3 = W4 at l1 l2 l3 l4 o4 s4 b4 ⊢
  clear o4
  clear Hl1 Hl2 Hl3 s3 Hb3
  have Hl1 := hide l1
  have Hl2 := hide l2
  have Hl3 := hide l3
  have Hl4 := hide l4
  have Hb4 := hide b4
  clear l1 l2 l3 l4 b4
  unfold Halt
  have hc0 : W4.cell? ⟨w.heap.size + 3, 0, none⟩ = some (.int .i64 3) := Hl4.out.r 0 _ r3.id
  have hf0 : W4.frozen? ⟨w.heap.size + 3, 0, none⟩ = false := (Hl4.out.t 0 (by omega)).2
  go_wp2_with (guard_target =~ wpList _ _ _ (Oper.mk _ (Op.load 25 (.tmp 1)) _ _ _ _ :: _) _ _; refine halt ?_)
  change Halt (wpList _ _ _ _ _ (W4.setCell ⟨w.heap.size + 3, 0, none⟩ (.int .i64 4)))
  have m4 : (W4.setCell ⟨w.heap.size + 3, 0, none⟩ (.int .i64 4)).rangeAt (w.heap.size + 3) 0 X4 := by rw [Hh43.out]; exact set_head _ r3.len Hl4.out.r
  have om : Only (fun k => k = w.heap.size + 3) W4 (W4.setCell ⟨w.heap.size + 3, 0, none⟩ (.int .i64 4)) := (Only.refl (fun k => k = w.heap.size + 3) W4).setCell (p := ⟨w.heap.size + 3, 0, none⟩) (.inl rfl) _
  have m1 := (Hl1.out.keep om (by omega))
  have m2 := (Hl2.out.keep om (by omega))
  have m3 := (Hl3.out.keep om (by omega))
  have m0 := Hb4.out.trans (om.toBelow (B := w.heap.size) Hb4.out.size (fun k h => by omega))
  generalize W4.setCell ⟨w.heap.size + 3, 0, none⟩ (.int .i64 4) = V at m1 m2 m3 m4 m0 ⊢
  clear hc0 hf0 om Hl1 Hl2 Hl3 Hl4 s4 Hb4 W1 W2 W3 W4
  have Hm0 := hide m0
  have Hm1 := hide m1
  have Hm2 := hide m2
  have Hm3 := hide m3
  have Hm4 := hide m4
  clear m0 m1 m2 m3 m4
  unfold Halt
  go_wp2_with (first
    | (guard_target =~ wpList _ _ _ (Oper.mk _ (Op.load 25 (.tmp 1)) _ _ _ _ :: _) _ _; refine wp_load_row (by rfl) _ rfl w.heap.size 0 rfl X1 r1.len Hm1.out.r ?_)
    | (guard_target =~ wpList _ _ _ (Oper.mk _ (Op.load 25 (.tmp 2)) _ _ _ _ :: _) _ _; refine wp_load_row (by rfl) _ rfl (w.heap.size + 1) 0 rfl X2 r2.len Hm2.out.r ?_)
    | (guard_target =~ wpList _ _ _ (Oper.mk _ (Op.load 25 (.tmp 3)) _ _ _ _ :: _) _ _; refine wp_load_row (by rfl) _ rfl (w.heap.size + 2) 0 rfl X3 r3.len Hm3.out.r ?_)
    | (guard_target =~ wpList _ _ _ (Oper.mk _ (Op.load 25 (.tmp 4)) _ _ _ _ :: _) _ _; refine wp_load_row (by rfl) _ rfl (w.heap.size + 3) 0 rfl X4 r4.len Hm4.out ?_)
    | (guard_target =~ wpList _ _ _ (Oper.mk _ (Op.buildSlice _ _ _) _ _ _ _ :: _) _ _; refine halt ?_))
  unfold Halt
  refine wp_slice rfl _ rfl 33 3 _ rfl #[(0, .agg X2.toArray), (1, .agg X3.toArray), (2, .agg X4.toArray)] (by kernel_rfl) (Hhbs.out V) ?_
  simp only [Act.put, List.setIfInBounds_toArray, List.set_cons_succ, List.set_cons_zero]
  have hsn := seen_new V [ai2, ai3, ai4] 3 rfl
  have hbv := (Below.refl _ V).alloc (Nat.le_refl _) (.cells (rowsOf [ai2, ai3, ai4]).toArray 25)
  have n1 := Hm1.out.below hbv
  have n2 := Hm2.out.below hbv
  have n0 := Hm0.out.trans (hbv.mono Hm0.out.size)
  generalize V.heap.size = gv at hsn ⊢
  generalize V.alloc (.cells (rowsOf [ai2, ai3, ai4]).toArray 25) = U at hsn n1 n2 n0 ⊢
  clear Hm1 Hm2 Hm3 Hm4 Hm0 hbv
  have hmt := mate_any ai1 X1 5 (some ⟨gv, 0, none⟩) 3 3 [ai2, ai3, ai4] U r1 (by unfold bd; omega) (by unfold bd; decide) hsn (by intro h; cases h) (by intro y hy; simp only [List.mem_cons, List.not_mem_nil, or_false] at hy; rcases hy with rfl | rfl | rfl <;> (unfold bd; decide)) (by omega)
  rw [ai_mate] at hmt
  have Hn0 := hide n0
  have Hn1 := hide n1
  have Hn2 := hide n2
  have Hhsn := hide hsn
  have Hhmt := hide hmt
  clear n0 n1 n2 hsn hmt
  go_wp2_with fail
  refine Hhmt.out.mono ?_
  rintro r U1 ⟨rfl, q⟩
  have n1 := Hn1.out.below q
  have n2 := Hn2.out.below q
  have n0 := Hn0.out.trans (q.mono Hn0.out.size)
  clear Hn1 Hn2 Hn0 Hhmt Hhsn q
  have Hn0 := hide n0
  have Hn1 := hide n1
  have Hn2 := hide n2
  clear n0 n1 n2
  go_wp2_with (first
    | (guard_target =~ wpList _ _ _ (Oper.mk _ (Op.load 25 (.tmp 1)) _ _ _ _ :: _) _ _; refine wp_load_row (by rfl) _ rfl w.heap.size 0 rfl X1 r1.len Hn1.out.r ?_)
    | (guard_target =~ wpList _ _ _ (Oper.mk _ (Op.load 25 (.tmp 2)) _ _ _ _ :: _) _ _; refine wp_load_row (by rfl) _ rfl (w.heap.size + 1) 0 rfl X2 r2.len Hn2.out.r ?_))
  refine (differ_any ai1 ai1 X1 X1 0 _ r1 r1 (by unfold bd; omega) (by unfold bd; decide) (by unfold bd; decide)).mono ?_
  rintro r U2 ⟨⟨v, rfl, hv⟩, q⟩
  obtain ⟨A, c, rfl⟩ := own_slice hv
  rw [ai_diff]
  have n1 := Hn1.out.below q
  have n2 := Hn2.out.below q
  have n0 := Hn0.out.trans (q.mono Hn0.out.size)
  clear Hn1 Hn2 Hn0 q
  have Hn0 := hide n0
  have Hn1 := hide n1
  have Hn2 := hide n2
  clear n0 n1 n2
  go_wp2_with (first
    | (guard_target =~ wpList _ _ _ (Oper.mk _ (Op.load 25 (.tmp 1)) _ _ _ _ :: _) _ _; refine wp_load_row (by rfl) _ rfl w.heap.size 0 rfl X1 r1.len Hn1.out.r ?_)
    | (guard_target =~ wpList _ _ _ (Oper.mk _ (Op.load 25 (.tmp 2)) _ _ _ _ :: _) _ _; refine wp_load_row (by rfl) _ rfl (w.heap.size + 1) 0 rfl X2 r2.len Hn2.out.r ?_))
  refine (fits_any ai1 ai2 X1 X2 3 _ r1 r2 (by unfold bd; omega) (by unfold bd; decide) (by unfold bd; decide)).mono ?_
  rintro r U3 ⟨rfl, q⟩
  rw [ai_fit3]
  have n1 := Hn1.out.below q
  have n2 := Hn2.out.below q
  have n0 := Hn0.out.trans (q.mono Hn0.out.size)
  clear Hn1 Hn2 Hn0 q
  have Hn0 := hide n0
  have Hn1 := hide n1
  have Hn2 := hide n2
  clear n0 n1 n2
  go_wp2_with (first
    | (guard_target =~ wpList _ _ _ (Oper.mk _ (Op.load 25 (.tmp 1)) _ _ _ _ :: _) _ _; refine wp_load_row (by rfl) _ rfl w.heap.size 0 rfl X1 r1.len Hn1.out.r ?_)
    | (guard_target =~ wpList _ _ _ (Oper.mk _ (Op.load 25 (.tmp 2)) _ _ _ _ :: _) _ _; refine wp_load_row (by rfl) _ rfl (w.heap.size + 1) 0 rfl X2 r2.len Hn2.out.r ?_))
  refine (fits_any ai1 ai2 X1 X2 2 _ r1 r2 (by unfold bd; omega) (by unfold bd; decide) (by unfold bd; decide)).mono ?_
  rintro r U4 ⟨rfl, q⟩
  rw [ai_fit2]
  have n1 := Hn1.out.below q
  have n2 := Hn2.out.below q
  have n0 := Hn0.out.trans (q.mono Hn0.out.size)
  clear Hn1 Hn2 Hn0 q
  have Hn0 := hide n0
  have Hn1 := hide n1
  have Hn2 := hide n2
  clear n0 n1 n2
  go_wp2_with (first
    | (guard_target =~ wpList _ _ _ (Oper.mk _ (Op.load 25 (.tmp 1)) _ _ _ _ :: _) _ _; refine wp_load_row (by rfl) _ rfl w.heap.size 0 rfl X1 r1.len Hn1.out.r ?_)
    | (guard_target =~ wpList _ _ _ (Oper.mk _ (Op.load 25 (.tmp 2)) _ _ _ _ :: _) _ _; refine wp_load_row (by rfl) _ rfl (w.heap.size + 1) 0 rfl X2 r2.len Hn2.out.r ?_))
  refine (Far_any ai1 ai2 X1 X2 _ r1 r2 (by unfold bd; decide) (by unfold bd; decide)).mono ?_
  rintro r U5 ⟨rfl, q⟩
  rw [ai_far]
  have n1 := Hn1.out.below q
  have n2 := Hn2.out.below q
  have n0 := Hn0.out.trans (q.mono Hn0.out.size)
  clear Hn1 Hn2 Hn0 q
  have Hn0 := hide n0
  have Hn1 := hide n1
  have Hn2 := hide n2
  clear n0 n1 n2
  go_wp2_with fail
  refine ⟨rfl, .bool true, by kernel_rfl, ?_⟩
  exact ⟨rfl, Hn0.out⟩
end Go.Proofs.Ytjanmnjmnnnfmaa
