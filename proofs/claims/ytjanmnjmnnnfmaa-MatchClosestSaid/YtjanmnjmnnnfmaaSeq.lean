/- slices.Clone, IndexFunc, DeleteFunc, MinFunc over instructions. -/
import Derived.Test.YtjanmnjmnnnfmaaInsAt
import Derived.Deep.CutBlock
import Derived.Deep.LoopGhost
import Derived.Deep.DeepCutAuto
import Derived.Deep.RegionHeld3
import Derived.Lib.SliceRun
import Derived.Shelf.Abstract
namespace Go.Proofs.Ytjanmnjmnnnfmaa
open Go.RowKit

/-- A slice of instructions: where it has elements they lie at g, off. -/
def InsS (W : World) (A : Option Addr) (g off : Nat) (d : List Ins) : Prop := 0 < d.length → A = some ⟨g, off, none⟩ ∧ InsAt W g off d
def rowsOf (d : List Ins) : List Value := d.flatMap Ins.row
theorem rows_len (d : List Ins) : (rowsOf d).length = d.length * 21 := by
  induction d with
  | nil => rfl
  | cons x d ih => simp only [rowsOf, List.flatMap_cons, List.length_append, row_len, List.length_cons] at ih ⊢; omega
theorem rows_at : ∀ (d : List Ins) (i j : Nat) (hi : i < d.length), j < 21 → (rowsOf d)[i * 21 + j]? = d[i].row[j]?
  | [], _, _, h, _ => by simp at h
  | x :: d, 0, j, _, hj => by
    simp only [rowsOf, List.flatMap_cons, Nat.zero_mul, Nat.zero_add]
    rw [List.getElem?_append_left (by rw [row_len]; exact hj)]
    rfl
  | x :: d, i + 1, j, h, hj => by
    have ih := rows_at d i j (by simpa using h) hj
    simp only [rowsOf, List.flatMap_cons] at ih ⊢
    rw [List.getElem?_append_right (by rw [row_len]; omega), row_len, show (i + 1) * 21 + j - 21 = i * 21 + j by omega, ih]
    rfl
theorem rows_one (d : List Ins) : ∀ u ∈ rowsOf d, u.oneCell' = true := by
  intro u hu
  obtain ⟨x, _, hx⟩ := List.mem_flatMap.1 hu
  exact row_one x u hx
/-- An own row of cells is a slice of instructions. -/
theorem own_ins {W : World} {B n : Nat} {v : Value} {d : List Ins} (h : W.ownsRow B 25 21 v n (rowsOf d)) (hn : d.length = n) : ∃ A c g, v = .slice A n c ∧ InsS W A g 0 d ∧ B ≤ g ∧ n ≤ c := by
  rcases h.2 with ⟨rfl, h0⟩ | ⟨g, cap, cur, rfl, hb, hg, hnc, _, hcs, htake⟩
  · exact ⟨none, 0, B, by rw [h0], fun hl => by omega, Nat.le_refl _, by omega⟩
  · refine ⟨_, cap, g, rfl, fun _ => ⟨rfl, ?_⟩, hb, hnc⟩
    intro i x hx
    obtain ⟨hi, hxi⟩ := List.getElem?_eq_some_iff.1 hx
    have hc := h.cells (g := g) rfl
    have hcell : ∀ j, j < 21 → W.cell? ⟨g, 0 + i * 21 + j, none⟩ = x.row[j]? := by
      intro j hj
      have hl : i * 21 + j < (rowsOf d).length := by rw [rows_len]; omega
      have h1 := hc (i * 21 + j) _ (List.getElem?_eq_getElem hl)
      rw [add_plain, ← List.getElem?_eq_getElem hl, rows_at d i j hi hj, hxi] at h1
      rw [Nat.zero_add]
      exact h1
    constructor
    · intro j v hv
      have hj : j < 21 := by have := (List.getElem?_eq_some_iff.1 hv).1; rw [row_len] at this; exact this
      rw [hcell j hj]
      exact hv
    · intro j hj
      refine ⟨?_, blk_frozen hg _⟩
      rw [hcell j hj, List.getElem?_eq_getElem (by rw [row_len]; exact hj)]
      rfl

theorem info_inst3 : (Try.prog.info? 25).map (fun i => (i.zero, i.size, i.bytes)) = some (some (.agg Ins.zero.row.toArray), 21, 208) := by kernel_rfl
set_option maxHeartbeats 1000000 in
set_option maxRecDepth 100000 in
theorem clone_any (ad : Addr) (n c : Nat) (d : List Ins) (w : World) (hn : d.length = n) (hmax : n ≤ 1000000000) (hc : ∀ j u, (rowsOf d)[j]? = some u → w.cell? (ad.add j) = some u) :
    Calls Try.prog 33 #[.slice (some ad) n c] w fun r w' => (∃ A c g, r = .returned (.slice A n c) ∧ InsS w' A g 0 d ∧ w.heap.size ≤ g ∧ n ≤ c) ∧ Below w.heap.size w w' := by
  have q33 : ∀ (w : World) (a : Option Addr) (n c n' c' : Nat), (binOp .eql 33 (.slice a n c) (.slice none n' c')).run Try.prog w = .ok (.bool a.isNone) w := fun w a n c n' c' => Lib.run_eql_slice_nil w _ _ a n c n' c' Try.underlying33
  obtain ⟨i0, hi, hz0, hz1, hz2⟩ := info_parts info_inst3
  have A : Aside (∀ j u, (rowsOf d)[j]? = some u → w.cell? (ad.add j) = some u) := hc
  clear hc
  go_enter Try.func33, Try.ntmps33
  go_wp2_with (at_builtin; refine wpList_append_own _ rfl _ _ 33 rfl w.heap.size 25 i0 _ 21 208 Try.underlying33 hi hz0 hz1 hz2 (by rfl) (by omega) _ _ _ rfl (World.ownsRow_made w #[] 0 (Nat.le_refl _) (Nat.zero_le _) (by simp)) ad n c (rowsOf d) rfl ?qc1 ?qc2 ?qc3 ?qc4 ?qc5 ?qc6 ?_)
  case qc1 => rw [rows_len, hn]
  case qc2 =>
    intro j u hj
    exact Lib.cell?_alloc_some _ (A.out j u hj)
  case qc3 => exact rows_one d
  case qc4 => simp only [maxLen]; omega
  case qc5 => omega
  case qc6 => simp
  intro v' w1 hown hgrow hnil
  have hb : Below w.heap.size w w1 := ((Below.refl _ w).alloc (Nat.le_refl _) _).grown hgrow (by simp) (by intro k hk; simp [Value.ownBlock] at hk; omega)
  have hown2 : w1.ownsRow w.heap.size 25 21 v' n (rowsOf d) := by simpa using hown
  obtain ⟨A1, c1, g1, rfl, hs, hg, hnc⟩ := own_ins hown2 hn
  have Hhown := hide hown
  have Hhgrow := hide hgrow
  have Hhnil := hide hnil
  have Hhb := hide hb
  have Hhown2 := hide hown2
  have Hhs := hide hs
  clear hown hgrow hnil hb hown2 hs
  go_wp2_with fail
  go_ret
  exact ⟨⟨A1, c1, g1, rfl, Hhs.out, hg, hnc⟩, Hhb.out⟩
set_option maxRecDepth 100000 in
theorem clone_nil (n c : Nat) (w : World) :
    Calls Try.prog 33 #[.slice none n c] w fun r w' => r = .returned (.slice none 0 0) ∧ w' = w := by
  have q33 : ∀ (w : World) (a : Option Addr) (n c n' c' : Nat), (binOp .eql 33 (.slice a n c) (.slice none n' c')).run Try.prog w = .ok (.bool a.isNone) w := fun w a n c n' c' => Lib.run_eql_slice_nil w _ _ a n c n' c' Try.underlying33
  go_enter Try.func33, Try.ntmps33
  go_wp2_with fail
  go_ret
  exact ⟨rfl, rfl⟩

/-- The first place at which p holds, or -1. -/
def idxP (p : Ins → Bool) (d : List Ins) : Int := match d.findIdx? p with | some i => i | none => -1
def IdxRel (p : Ins → Bool) (d : List Ins) (w : World) (left : Nat) (s : Value) (W : World) : Prop :=
  ∃ k : Nat, k ≤ d.length ∧ left = d.length - k ∧ s = .int .i64 k ∧ Below w.heap.size w W ∧ ∀ j (h : j < d.length), j < k → p d[j] = false
theorem idxP_hit {p : Ins → Bool} {d : List Ins} {k : Nat} (hk : k < d.length) (h1 : p d[k] = true) (h0 : ∀ j (h : j < d.length), j < k → p d[j] = false) : idxP p d = k := by
  have : d.findIdx? p = some k := by
    rw [List.findIdx?_eq_some_iff_getElem]
    exact ⟨hk, h1, fun j hj => by simp [h0 j (by omega) hj]⟩
  rw [idxP, this]
theorem idxP_none {p : Ins → Bool} {d : List Ins} (h0 : ∀ j (h : j < d.length), p d[j] = false) : idxP p d = -1 := by
  have : d.findIdx? p = none := by
    rw [List.findIdx?_eq_none_iff]
    intro x hx
    obtain ⟨j, hj, rfl⟩ := List.mem_iff_getElem.1 hx
    exact h0 j hj
  rw [idxP, this]
set_option maxHeartbeats 800000 in
set_option maxRecDepth 100000 in
theorem indexFunc_any {S : Nat → Prop} {ok : Ins → Prop} (f : Nat) (lb : Array Value) (eg : ∀ args w, (callFunc f args).run Try.prog w = .ok (.enter f args) w) (p : Ins → Bool) (A : Option Addr) (g off n c : Nat) (d : List Ins) (w : World)
    (hd : d.length = n) (hmax : n ≤ 1000000000) (hs : InsS w A g off d) (hp : PredOk w S f lb p ok) (hok : ∀ x ∈ d, ok x) :
    Calls Try.prog 73 #[.slice A n c, .func (.func f) #[] lb] w fun r w' => r = .returned (.int .i64 (idxP p d)) ∧ Below w.heap.size w w' := by
  subst hd
  have Hhs := hide hs
  have Hhp := hide hp
  have Hhok := hide hok
  clear hs hp hok
  go_enter Try.func73, Try.ntmps73
  go_wp2_with fail
  go_loopg [8] d.length (fun left s wx => IdxRel p d w left s wx)
  case atStart => exact ⟨0, Nat.zero_le _, rfl, rfl, Below.refl _ _, fun j _ h => by omega⟩
  case round =>
    obtain ⟨k, hk, rfl, rfl, hb, h0⟩ := hrel
    by_cases hlt : k < d.length
    · have d1 : decide ((k : Int) < (d.length : Int)) = true := by rw [decide_eq_true_iff]; omega
      obtain ⟨rfl, hat⟩ := Hhs.out (by omega)
      have hg := hat.lt hlt
      have hr := (hat.below hb hg).at_ hlt
      have hcall := Hhp.out wr d[k] (Hhok.out _ (List.getElem_mem hlt)) ⟨hb.os, hb.tape, hb.output, hb.size, fun j hj _ => hb.block j hj⟩
      have hrow := row_len d[k]
      have hrr := hr.1
      obtain ⟨X, hX⟩ : ∃ X, X = d[k].row := ⟨_, rfl⟩
      rw [← hX] at hcall hrow hrr
      clear hX
      cases hq : p d[k] with
      | true =>
        rw [hq] at hcall
        have Hhb := hide hb
        have Hh0 := hide h0
        have Hhq := hide hq
        have Hhcall := hide hcall
        have Hhrr := hide hrr
        have Hhat := hide hat
        have Hhr := hide hr
        clear hb h0 hq hcall hrr hat hr
        go_wp2_with (first | (guard_target =~ wpList _ _ _ (Oper.mk _ (Op.load 25 _) _ _ _ _ :: _) _ _; refine wp_load_row (by rfl) _ rfl g (off + k * 21) rfl X hrow Hhrr.out ?_) | (go_at_fn f; refine Hhcall.out.mono ?_; rintro r w' ⟨rfl, hb2⟩))
        go_ret
        rw [idxP_hit hlt Hhq.out Hh0.out]
        exact ⟨rfl, Hhb.out.trans (hb2.mono Hhb.out.size)⟩
      | false =>
        rw [hq] at hcall
        have Hhb := hide hb
        have Hh0 := hide h0
        have Hhq := hide hq
        have Hhcall := hide hcall
        have Hhrr := hide hrr
        have Hhat := hide hat
        have Hhr := hide hr
        clear hb h0 hq hcall hrr hat hr
        go_wp2_with (first | (guard_target =~ wpList _ _ _ (Oper.mk _ (Op.load 25 _) _ _ _ _ :: _) _ _; refine wp_load_row (by rfl) _ rfl g (off + k * 21) rfl X hrow Hhrr.out ?_) | (go_at_fn f; refine Hhcall.out.mono ?_; rintro r w' ⟨rfl, hb2⟩))
        go_roundg (d.length - (k + 1))
        case measure => omega
        case rel =>
          refine ⟨k + 1, hlt, rfl, by go_num, Hhb.out.trans (hb2.mono Hhb.out.size), fun j hj hjk => ?_⟩
          by_cases e : j = k
          · subst e; exact Hhq.out
          · exact Hh0.out j hj (by omega)
    · have d1 : decide ((k : Int) < (d.length : Int)) = false := by rw [decide_eq_false_iff_not]; omega
      have he : idxP p d = -1 := idxP_none (fun j hj => h0 j hj (by omega))
      have Hhb := hide hb
      have Hh0 := hide h0
      have Hhe := hide he
      clear hb h0 he
      go_wp2_with fail
      go_ret
      rw [Hhe.out]
      exact ⟨rfl, Hhb.out⟩
end Go.Proofs.Ytjanmnjmnnnfmaa
