/- slices.DeleteFunc over instructions. -/
import Derived.Test.YtjanmnjmnnnfmaaSeq
namespace Go.Proofs.Ytjanmnjmnnnfmaa
open Go.RowKit

theorem there_new (W : World) (Z : Array Value) (hz : Z.size = 21) : (W.alloc (.cells Z 25)).there W.heap.size 0 21 := by
  intro j hj
  rw [Nat.zero_add]
  refine ⟨?_, blk_frozen (blk_new W _) j⟩
  rw [blk_cell (blk_new W _) j]
  simp [hz, hj]
theorem there_new_at (W : World) (Z : Array Value) (g : Nat) (hg : W.heap.size = g) (hz : Z.size = 21) : (W.alloc (.cells Z 25)).there g 0 21 := by subst hg; exact there_new W Z hz
/-- The world under a name, with what is known of it. -/
theorem wp_world {P : Program} {c : Code} {Q : Exit → Act → World → Prop} {a : Act} {W : World} (F : World → Prop) (hF : F W) (h : ∀ W1, F W1 → c.wp P Q a W1) : c.wp P Q a W := h W hF
theorem range_below_ {w w1 : World} {g o B : Nat} {X : List Value} (h : w.rangeAt g o X) (hb : Below B w w1) (hg : g < B) : w1.rangeAt g o X := fun j v hv => (hb.cell (p := ⟨g, o + j, none⟩) hg).trans (h j v hv)

theorem run_clear_rows (w : World) (ty : TypeId) (g o n c : Nat) (hn : 0 < n) (ht : w.there g o (n * 21)) :
    (Builtin.clear_ #[33] ty #[.slice (some ⟨g, o, none⟩) n c]).run Try.prog w = .ok (.tuple #[]) (w.setCells g o (Builtin.zeroCells Ins.zero.row.toArray n).toList) := by
  have hlen : (Builtin.zeroCells Ins.zero.row.toArray n).toList.length = n * 21 := by
    simp [Builtin.zeroCells, row_len]
  have hone : ∀ v ∈ (Builtin.zeroCells Ins.zero.row.toArray n).toList, v.oneCell' = true := by
    intro v hv
    simp only [Builtin.zeroCells, Array.toList_map, List.mem_map] at hv
    obtain ⟨j, _, rfl⟩ := hv
    have hj : j % 21 < 21 := Nat.mod_lt _ (by omega)
    have e : (Ins.zero.row.toArray).size = 21 := rfl
    rw [e]
    have : (Ins.zero.row.toArray).getD (j % 21) undef = (Ins.zero.row)[j % 21]'(by rw [row_len]; exact hj) := by simp [row_len, hj]
    first | (rw [this]; exact row_one _ _ (List.getElem_mem _)) | (simp [row_len, hj]; exact row_one _ _ (List.getElem_mem _))
  have hst := run_storeCells_cells (P := Try.prog) g o (Builtin.zeroCells Ins.zero.row.toArray n).toList 0 w (by rw [hlen]; exact fun j hj => by simpa using (ht j hj).1) (by rw [hlen]; exact fun j hj => by simpa using (ht j hj).2) hone
  have hz : ∀ w, (zeroValue 25).run Try.prog w = .ok (.agg Ins.zero.row.toArray) w := fun w => by kernel_rfl
  simp only [Nat.add_zero] at hst
  obtain ⟨m, rfl⟩ : ∃ m, n = m + 1 := ⟨n - 1, by omega⟩
  simp [Builtin.clear_, run_underlying Try.underlying33, hz, Value.cells, hst]

/-- Place j has been looked at; what is kept so far lies ahead of place i. -/
structure Kept (p : Ins → Bool) (d : List Ins) (i j : Nat) (e : List Ins) : Prop where
  len : e.length = d.length
  lt : i < j
  le : j ≤ d.length
  low : e.take i = (d.take j).filter fun x => !p x
  high : e.drop j = d.drop j
theorem Kept.start {p : Ins → Bool} {d : List Ins} {k : Nat} (hk : k < d.length) (h1 : p d[k] = true) (h0 : ∀ j (h : j < d.length), j < k → p d[j] = false) : Kept p d k (k + 1) d := by
  refine ⟨rfl, by omega, hk, ?_, rfl⟩
  rw [List.take_succ_eq_append_getElem hk, List.filter_append]
  have : (d.take k).filter (fun x => !p x) = d.take k := by
    rw [List.filter_eq_self]
    intro x hx
    obtain ⟨j, hj, rfl⟩ := List.mem_iff_getElem.1 hx
    rw [List.length_take] at hj
    rw [List.getElem_take]
    simp [h0 j (by omega) (by omega)]
  rw [this]
  simp [h1]
theorem Kept.same {p : Ins → Bool} {d e : List Ins} {i j : Nat} (h : Kept p d i j e) (hj : j < d.length) : e[j]'(by rw [h.len]; exact hj) = d[j] := by
  have h1 := congrArg List.head? h.high
  rw [List.head?_drop, List.head?_drop, List.getElem?_eq_getElem hj, List.getElem?_eq_getElem (by rw [h.len]; exact hj)] at h1
  exact Option.some.inj h1
theorem Kept.skip {p : Ins → Bool} {d e : List Ins} {i j : Nat} (h : Kept p d i j e) (hj : j < d.length) (hp : p d[j] = true) : Kept p d i (j + 1) e := by
  refine ⟨h.len, by have := h.lt; omega, hj, ?_, ?_⟩
  · rw [h.low, List.take_succ_eq_append_getElem hj, List.filter_append]
    simp [hp]
  · have := congrArg (List.drop 1) h.high
    rwa [List.drop_drop, List.drop_drop] at this
theorem Kept.keep {p : Ins → Bool} {d e : List Ins} {i j : Nat} (h : Kept p d i j e) (hj : j < d.length) (hp : p d[j] = false) : Kept p d (i + 1) (j + 1) (e.set i d[j]) := by
  have hi : i < e.length := by have := h.lt; have := h.len; omega
  refine ⟨by simp [h.len], by have := h.lt; omega, hj, ?_, ?_⟩
  · rw [List.take_succ_eq_append_getElem (by simpa using hi), List.take_set_of_le (Nat.le_refl i), h.low, List.getElem_set_self, List.take_succ_eq_append_getElem hj, List.filter_append]
    simp [hp]
  · rw [List.drop_set_of_lt (by have := h.lt; omega)]
    have := congrArg (List.drop 1) h.high
    rwa [List.drop_drop, List.drop_drop] at this
theorem Kept.done {p : Ins → Bool} {d e : List Ins} {i : Nat} (h : Kept p d i d.length e) : e.take i = (d.filter fun x => !p x) ∧ i = (d.filter fun x => !p x).length := by
  have h1 := h.low
  rw [List.take_length] at h1
  refine ⟨h1, ?_⟩
  have := congrArg List.length h1
  rw [List.length_take] at this
  have := h.lt
  have := h.len
  omega

def DelRel (p : Ins → Bool) (d : List Ins) (g off : Nat) (w : World) (left : Nat) (s5 s6 : Value) (W : World) : Prop :=
  ∃ (i j : Nat) (e : List Ins), s5 = .int .i64 i ∧ s6 = .int .i64 j ∧ left = d.length - j ∧ Kept p d i j e ∧ InsAt W g off e ∧ Only (fun k => k = g) w W
theorem idxP_cases (p : Ins → Bool) (d : List Ins) : (idxP p d = -1 ∧ ∀ j (h : j < d.length), p d[j] = false) ∨ ∃ k, ∃ hk : k < d.length, idxP p d = k ∧ p d[k] = true ∧ ∀ j (h : j < d.length), j < k → p d[j] = false := by
  cases h : d.findIdx? p with
  | none =>
    refine .inl ⟨by rw [idxP, h], fun j hj => ?_⟩
    exact List.findIdx?_eq_none_iff.1 h _ (List.getElem_mem hj)
  | some k =>
    obtain ⟨hk, h1, h0⟩ := List.findIdx?_eq_some_iff_getElem.1 h
    refine .inr ⟨k, hk, by rw [idxP, h], h1, fun j hj hjk => ?_⟩
    simpa using h0 j hjk
set_option maxHeartbeats 1600000 in
set_option maxRecDepth 100000 in
theorem deleteFunc_any {ok : Ins → Prop} (f : Nat) (lb : Array Value) (eg : ∀ args w, (callFunc f args).run Try.prog w = .ok (.enter f args) w) (p : Ins → Bool) (A : Option Addr) (g off n c : Nat) (d : List Ins) (w : World)
    (hd : d.length = n) (hmax : n ≤ 1000000000) (hnc : n ≤ c) (hs : InsS w A g off d) (hp : PredOk w (fun k => k = g) f lb p ok) (hok : ∀ x ∈ d, ok x) :
    Calls Try.prog 32 #[.slice A n c, .func (.func f) #[] lb] w fun r w' => r = .returned (.slice A (d.filter fun x => !p x).length c) ∧ InsS w' A g off (d.filter fun x => !p x) ∧ Only (fun k => k = g) w w' := by
  subst hd
  have hidx := indexFunc_any f lb eg p A g off d.length c d w rfl hmax hs hp hok
  have Hhs := hide hs
  have Hhp := hide hp
  have Hhok := hide hok
  clear hs hp hok
  rcases idxP_cases p d with ⟨e1, hall⟩ | ⟨k, hk, e1, h1, h0⟩
  · rw [e1] at hidx
    have hf : (d.filter fun x => !p x) = d := by
      rw [List.filter_eq_self]
      intro x hx
      obtain ⟨j, hj, rfl⟩ := List.mem_iff_getElem.1 hx
      simp [hall j hj]
    rw [hf]
    have Hhall := hide hall
    have Hhidx := hide hidx
    have Hhf := hide hf
    clear hall hidx hf
    go_enter Try.func32, Try.ntmps32
    go_wp2_with (go_at_call 73; refine Hhidx.out.mono ?_; rintro r w' ⟨rfl, hb⟩)
    go_ret
    exact ⟨rfl, fun hl => ⟨(Hhs.out hl).1, (Hhs.out hl).2.below hb ((Hhs.out hl).2.lt hl)⟩, (Only.refl _ w).below hb⟩
  · rw [e1] at hidx
    obtain ⟨rfl, hat⟩ := Hhs.out (by omega)
    have hK := Kept.start hk h1 h0
    have hne1 : ((k : Int) == -1) = false := beq_eq_false_iff_ne.2 (by omega)
    have hglt := hat.lt hk
    have Hh1 := hide h1
    have Hh0 := hide h0
    have Hhidx := hide hidx
    have Hhat := hide hat
    have HhK := hide hK
    clear h1 h0 hidx hat hK
    go_enter Try.func32, Try.ntmps32
    go_wp2_with (go_at_call 73; refine Hhidx.out.mono ?_; rintro r w1 ⟨rfl, hb1⟩)
    have hat1 := Hhat.out.below hb1 hglt
    have ho1 : Only (fun k => k = g) w w1 := (Only.refl _ w).below hb1
    have Hhat1 := hide hat1
    have Hho1 := hide ho1
    have Hhb1 := hide hb1
    clear hat1 ho1 hb1
    go_loopg [5, 6] (d.length - (k + 1)) (fun left s5 s6 wx => DelRel p d g off w left s5 s6 wx)
    case atStart => exact ⟨k, k + 1, d, rfl, by go_num, rfl, HhK.out, Hhat1.out, Hho1.out⟩
    case round =>
      obtain ⟨i, j, e, rfl, rfl, rfl, hkp, hea, ho⟩ := hrel
      have hij := hkp.lt
      have hjd := hkp.le
      have hel := hkp.len
      by_cases hlt : j < d.length
      · have d1 : decide ((j : Int) < (d.length : Int)) = true := by rw [decide_eq_true_iff]; omega
        have hr := hea.at_ (i := j) (by omega)
        have hti := (hea.at_ (i := i) (by omega)).2
        have hsame := hkp.same hlt
        rw [hsame] at hr
        have hcall : ∀ W, Only (fun k => k = g) w W → Calls Try.prog f (#[.agg d[j].row.toArray] ++ lb) W fun r w' => r = .returned (.bool (p d[j])) ∧ Below W.heap.size W w' := fun W hW => Hhp.out W d[j] (Hhok.out _ (List.getElem_mem hlt)) hW
        have hrow := row_len d[j]
        have hone := row_one d[j]
        have hrr := hr.1
        have hgw := hea.lt (i := j) (by omega)
        obtain ⟨X, hX⟩ : ∃ X, X = d[j].row := ⟨_, rfl⟩
        rw [← hX] at hcall hrow hrr hone
        clear hsame
        have HhX := hide hX
        have Hhkp := hide hkp
        have Hhea := hide hea
        have Hho := hide ho
        have Hhr := hide hr
        have Hhti := hide hti
        have Hhcall := hide hcall
        have Hhrr := hide hrr
        have Hhone := hide hone
        clear hX hkp hea ho hr hti hcall hrr hone
        go_wp2_with (first | (guard_target =~ wpList _ _ _ (Oper.mk _ (Op.load 25 (.tmp 24)) _ _ _ _ :: _) _ _; refine wp_load_row (by rfl) _ rfl g (off + j * 21) rfl X hrow Hhrr.out ?_) | (guard_target =~ wpList _ _ _ (Oper.mk _ (Op.store 25 (.tmp 7) _) _ _ _ _ :: _) _ _; refine wp_store_row rfl _ _ rfl wr.heap.size 0 rfl X rfl hrow Hhone.out (there_new _ _ rfl) ?_) | (guard_target =~ wpList _ _ _ (Oper.mk _ (Op.load 25 (.tmp 7)) _ _ _ _ :: _) _ _; refine wp_load_row (by rfl) _ rfl wr.heap.size 0 rfl X hrow (World.rangeAt_setCells_same _ _ _ _ (by rw [hrow]; exact there_new _ _ rfl)) ?_))
        have ho2 : Only (fun k => k = g) w ((wr.alloc (.cells Ins.zero.row.toArray 25)).setCells wr.heap.size 0 X) := Only.setCells wr.heap.size (.inr Hho.out.size) _ _ _ (Hho.out.alloc _)
        have ho3 : Only (fun _ => False) wr ((wr.alloc (.cells Ins.zero.row.toArray 25)).setCells wr.heap.size 0 X) := Only.setCells wr.heap.size (.inr (Nat.le_refl _)) _ _ _ ((Only.refl _ wr).alloc _)
        have hnr : ((wr.alloc (.cells Ins.zero.row.toArray 25)).setCells wr.heap.size 0 X).rangeAt wr.heap.size 0 X := World.rangeAt_setCells_same _ _ _ _ (by rw [hrow]; exact there_new _ _ rfl)
        have hsz2 : wr.heap.size < ((wr.alloc (.cells Ins.zero.row.toArray 25)).setCells wr.heap.size 0 X).heap.size := World.block_lt_of_cell? _ _ (hnr 0 _ (List.getElem?_eq_getElem (by omega)))
        refine (Hhcall.out _ ho2).mono ?_
        rintro r W3 ⟨rfl, hb3⟩
        have hea3 : InsAt W3 g off e := (Hhea.out.only ho3 (fun h => h)).below hb3 (Nat.lt_of_lt_of_le hgw ho3.size)
        have hoo3 : Only (fun k => k = g) w W3 := ho2.below hb3
        have hnr3 : W3.rangeAt wr.heap.size 0 X := range_below_ hnr hb3 hsz2
        have hti3 := (hea3.at_ (i := i) (by omega)).2
        clear ho2 ho3 hnr hsz2 hb3
        have Hhea3 := hide hea3
        have Hhoo3 := hide hoo3
        have Hhnr3 := hide hnr3
        have Hhti3 := hide hti3
        clear hea3 hoo3 hnr3 hti3
        cases hq : p d[j] with
        | true =>
          have Hhq := hide hq
          clear hq
          go_wp2_with fail
          go_roundg (d.length - (j + 1))
          case measure => omega
          case rel => exact ⟨i, j + 1, e, rfl, by go_num, rfl, Hhkp.out.skip hlt Hhq.out, Hhea3.out, Hhoo3.out⟩
        | false =>
          have Hhq := hide hq
          clear hq
          go_wp2_with (first | (guard_target =~ wpList _ _ _ (Oper.mk _ (Op.load 25 (.tmp 7)) _ _ _ _ :: _) _ _; refine wp_load_row (by rfl) _ rfl wr.heap.size 0 rfl X hrow Hhnr3.out ?_) | (guard_target =~ wpList _ _ _ (Oper.mk _ (Op.store 25 (.tmp 33) _) _ _ _ _ :: _) _ _; refine wp_store_row rfl _ _ rfl g (off + i * 21) rfl X rfl hrow Hhone.out Hhti3.out ?_))
          go_roundg (d.length - (j + 1))
          case measure => omega
          case rel =>
            refine ⟨i + 1, j + 1, e.set i d[j], by go_num, by go_num, rfl, Hhkp.out.keep hlt Hhq.out, ?_, Only.setCells (S := fun k => k = g) g (.inl rfl) _ _ _ Hhoo3.out⟩
            rw [HhX.out]
            exact Hhea3.out.set (by omega) d[j]
      · have d1 : decide ((j : Int) < (d.length : Int)) = false := by rw [decide_eq_false_iff_not]; omega
        have hje : j = d.length := by omega
        subst hje
        obtain ⟨hd1, hd2⟩ := hkp.done
        have hth : wr.there g (off + i * 21) ((d.length - i) * 21) := by
          intro q hq
          have hm : q % 21 < 21 := Nat.mod_lt _ (by omega)
          have := (hea.at_ (i := i + q / 21) (by omega)).2 (q % 21) hm
          rwa [show off + (i + q / 21) * 21 + q % 21 = off + i * 21 + q by omega] at this
        have hcl := fun ty => run_clear_rows wr ty g (off + i * 21) (d.length - i) (c - i) (by omega) hth
        have hfin : InsAt (wr.setCells g (off + i * 21) (Builtin.zeroCells Ins.zero.row.toArray (d.length - i)).toList) g off (e.take i) := by
          intro q x hx
          have hq : q < i := by
            have := (List.getElem?_eq_some_iff.1 hx).1
            rw [List.length_take] at this
            omega
          obtain ⟨z1, z2⟩ := hea.take i q x hx
          refine ⟨fun t v hv => ?_, World.there_setCells z2 _ _ _⟩
          have ht : t < 21 := by have := (List.getElem?_eq_some_iff.1 hv).1; rw [row_len] at this; exact this
          rw [World.cell?_setCells_out g _ (off + i * 21) wr ⟨g, off + q * 21 + t, none⟩ (fun _ _ => .inl (by show off + q * 21 + t < off + i * 21; omega))]
          exact z1 t v hv
        rw [hd1] at hfin
        have hon : Only (fun k => k = g) w (wr.setCells g (off + i * 21) (Builtin.zeroCells Ins.zero.row.toArray (d.length - i)).toList) := Only.setCells (S := fun k => k = g) g (.inl rfl) _ _ _ ho
        obtain ⟨D, hD⟩ : ∃ D, D = (d.filter fun x => !p x) := ⟨_, rfl⟩
        rw [← hD] at hd1 hd2 hfin
        generalize (Builtin.zeroCells Ins.zero.row.toArray (d.length - i)).toList = ZC at hcl hfin hon
        have Hhkp := hide hkp
        have Hhea := hide hea
        have Hho := hide ho
        have Hhd1 := hide hd1
        have Hhfin := hide hfin
        have Hhon := hide hon
        have Hhth := hide hth
        have Hhd2 := hide hd2
        have HhD := hide hD
        clear hkp hea ho hd1 hfin hon hth hd2 hD
        go_wp2_with fail
        go_ret
        rw [← HhD.out, ← Hhd2.out]
        exact ⟨rfl, fun _ => ⟨rfl, Hhfin.out⟩, Hhon.out⟩
end Go.Proofs.Ytjanmnjmnnnfmaa
