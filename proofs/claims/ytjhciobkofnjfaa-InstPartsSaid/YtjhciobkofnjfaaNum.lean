import Derived.Test.YtjhciobkofnjfaaW1
import Derived.Test.YtjhciobkofnjfaaMem
import Derived.Test.YtjhciobkofnjfaaBitsAid
namespace Go.Proofs.Ytjhciobkofnjfaa
open Go.RowKit WM

theorem info5 : (Try.prog.info? 5).map (fun i => (i.zero, i.size, i.bytes)) = some (some (.int .u8 0), 1, 1) := by kernel_rfl

/-- A writer of the program: its error, its own row, its bytes; all of it from block B on. -/
def Wr (B : Nat) (W : World) (g : Nat) (e : Int) (o : Option Nat) (bs : List UInt8) : Prop :=
  B ≤ g ∧ ∃ v, W.heap[g]? = some (.cells #[.int .i64 e, v] 49 (0, 0)) ∧ W.ownsRow B 5 1 v bs.length (bcells bs) ∧ v.ownBlock = o

theorem Wr.new (W : World) (B : Nat) (hB : B ≤ W.heap.size) : Wr B (W.alloc (.cells #[.int .i64 0, .slice none 0 0] 49)) W.heap.size 0 none [] :=
  ⟨hB, _, blk_new _ _, own_nil _ _ _ _, rfl⟩

theorem Wr.only {B : Nat} {W W' : World} {g : Nat} {e : Int} {o : Option Nat} {bs : List UInt8} {S : Nat → Prop} (h : Wr B W g e o bs) (ho : Only S W W') (hs : ∀ k, foot g o k → ¬ S k) : Wr B W' g e o bs := by
  obtain ⟨hB, v, hb, hown, rfl⟩ := h
  exact ⟨hB, v, blk_only hb ho (hs g (.inl rfl)), own_only hown ho (fun k hk => hs k (.inr hk)), rfl⟩
theorem Wr.base {B : Nat} {W : World} {g : Nat} {e : Int} {o : Option Nat} {bs : List UInt8} (h : Wr B W g e o bs) : ∀ k, foot g o k → B ≤ k := by
  obtain ⟨hB, v, hb, hown, rfl⟩ := h
  intro k hk
  rcases hk with rfl | hk
  · exact hB
  · exact own_base hown k hk
theorem Wr.lt {B : Nat} {W : World} {g : Nat} {e : Int} {o : Option Nat} {bs : List UInt8} (h : Wr B W g e o bs) : ∀ k, foot g o k → k < W.heap.size := by
  obtain ⟨hB, v, hb, hown, rfl⟩ := h
  intro k hk
  rcases hk with rfl | hk
  · exact blk_lt hb
  · exact own_lt hown k hk

/-- What putting comes to. -/
def Put (B : Nat) (w : World) (g : Nat) (o : Option Nat) (e : Int) (bs : List UInt8) (w' : World) : Prop :=
  ∃ o', Wr B w' g e o' bs ∧ Only (foot g o) w w' ∧ moved w o o'
def PutPost (B : Nat) (w : World) (g : Nat) (o : Option Nat) (e : Int) (bs : List UInt8) (r : Ending) (w' : World) : Prop :=
  r = .returned (.tuple #[]) ∧ Put B w g o e bs w'

/-- One append to a writer's row, stored. -/
theorem put_step {B g : Nat} {e : Int} {o o1 : Option Nat} {bs bs1 : List UInt8} {n : Nat} {w W W' : World} {v v' : Value}
    (hp : Only (foot g o) w W) (hm : moved w o o1) (hB : B ≤ g) (hb : W.heap[g]? = some (.cells #[.int .i64 e, v] 49 (0, 0))) (hown : W.ownsRow B 5 1 v bs.length (bcells bs)) (ho : v.ownBlock = o1)
    (hown' : W'.ownsRow B 5 1 v' n (bcells bs1)) (hg : W.grownBy W' v.ownBlock) (hv : v'.ownBlock = v.ownBlock ∨ ∃ k, v'.ownBlock = some k ∧ W.heap.size ≤ k) :
    Put B w g o e bs1 (W'.setCell ⟨g, 1, none⟩ v') := by
  have hne := own_ne hown hb (by decide)
  have hb2 := blk_grown hb hg (fun h => hne h.symm)
  have h3 := blk_set hb2 1 v'
  have hne' := own_ne hown' hb2 (by decide)
  have hn : n = bs1.length := by have := hown'.1; rw [bcells_length] at this; omega
  subst hn
  refine ⟨v'.ownBlock, ⟨hB, v', by simpa using h3, ?_, rfl⟩, ?_, ?_⟩
  · refine own_only hown' (S := fun k => k = g) ((Only.refl (fun k => k = g) W').setCell (p := ⟨g, 1, none⟩) (.inl rfl) v') ?_
    rintro k hk rfl
    exact hne' hk
  · have a1 := hp.grown hg (fun k hk => by
      have := foot_moved hm k (g := g) (.inr (by rw [← ho]; exact hk)); exact this)
    exact a1.setCell (.inl (.inl rfl)) _
  · have hsz0 := hp.size
    rcases hv with hv | ⟨k, hv, hk⟩
    · rw [hv, ho]; exact hm
    · exact .inr ⟨k, hv, by omega⟩
theorem put_cell {B g : Nat} {e : Int} {bs : List UInt8} {W W' : World} {v : Value}
    (hb : W.heap[g]? = some (.cells #[.int .i64 e, v] 49 (0, 0))) (hown : W.ownsRow B 5 1 v bs.length (bcells bs)) (hg : W.grownBy W' v.ownBlock) : W'.cell? ⟨g, 1, none⟩ = some v ∧ W'.frozen? ⟨g, 1, none⟩ = false := by
  have hne := own_ne hown hb (by decide)
  have hb2 := blk_grown hb hg (fun h => hne h.symm)
  exact ⟨by have := blk_cell hb2 1; simpa using this, blk_frozen hb2 1⟩
def NumRel (B g : Nat) (e : Int) (o : Option Nat) (all : List UInt8) (w : World) (s : Value) (wr : World) : Prop :=
  ∃ (n : Nat) (o1 : Option Nat) (bs1 : List UInt8), s = .int .u64 n ∧ n < 18446744073709551616 ∧ Wr B wr g e o1 bs1 ∧ bs1 ++ enc n = all ∧ Only (foot g o) w wr ∧ moved w o o1

set_option maxHeartbeats 400000 in
set_option maxRecDepth 100000 in
theorem num_any (B g : Nat) (e : Int) (o : Option Nat) (bs : List UInt8) (v : Int) (w : World) (h : Wr B w g e o bs) (h1 : -9223372036854775808 ≤ v) (h2 : v ≤ 9223372036854775807) (hl : bs.length ≤ 70368744177664) (hBw : B ≤ w.heap.size) :
    Calls Try.prog 54 #[.pointer (some ⟨g, 0, none⟩), .int .i64 v] w (PutPost B w g o e (bs ++ encI v)) := by
  obtain ⟨i0, hi, hz0, hz1, hz2⟩ := info_parts info5
  go_enter Try.func54, Try.ntmps54
  go_wp2_with fail
  rw [zz_any h1 h2]
  generalize Value.int IntKind.u64 (IntKind.u64.wrap v) = q6
  generalize Value.int IntKind.u64 (IntKind.u64.wrap (IntKind.u64.wrap v * 2)) = q7
  generalize Value.int IntKind.i64 (v / 9223372036854775808) = q9
  generalize Value.int IntKind.u64 (IntKind.u64.wrap (v / 9223372036854775808)) = q10
  go_loopw [4] (fun s wr => NumRel B g e o (bs ++ encI v) w s wr) (fun s _ => (intOf s).toNat)
  case atStart => exact ⟨zz v, o, bs, rfl, zz_lt h1 h2, h, rfl, Only.refl _ _, moved.refl _ _⟩
  case round =>
    obtain ⟨n, o1, bs1, rfl, hn, hw, heq, honly, hmv⟩ := hrel
    obtain ⟨hB, vv, hb, hown, ho⟩ := hw
    obtain ⟨A, c, rfl⟩ := own_slice hown
    have hc1 := blk_cell hb 1
    have hf1 := blk_frozen hb 1
    simp at hc1
    have HN := hide hn
    have HOB := hide ho
    have HE := hide heq
    have HO := hide honly
    have HM := hide hmv
    have HW := hide hown
    have HB := hide hb
    have H1 := hide h1
    have H2 := hide h2
    have HH := hide h
    clear ho hn heq honly hmv hown hb h1 h2 h
    have hbnd : bs1.length ≤ 140737488355000 := by
      have h3 := congrArg List.length HE.out
      have h4 := enc_length_ten (zz_lt H1.out H2.out)
      simp only [List.length_append, encI] at h3
      omega
    by_cases hlt : n < 128
    · have hd : decide (128 ≤ (n : Int)) = false := by simp; omega
      go_wp2_with (at_builtin; refine wp_append_one wr rfl (.tmp 32) (.tmp 35) 45 5 rfl Try.underlying45 (.int .u8 0) 1 info5 rfl B _ _ _ (.int .u8 (n : Int)) rfl rfl rfl HW.out ?c1 (by omega) (by omega) ?_)
      case c1 => have := HO.out.size; omega
      intro v' w' hown' hgr hwh
      obtain ⟨A', c', rfl⟩ := own_slice hown'
      obtain ⟨k1, k2⟩ := put_cell HB.out HW.out hgr
      have G := hide hown'
      have G2 := hide hgr
      have G3 := hide hwh
      clear hown' hgr hwh
      go_wp2
      go_end0
      refine ⟨rfl, ?_⟩
      have e1 : bcells bs1 ++ [Value.int IntKind.u8 (n : Int)] = bcells (bs ++ encI v) := by
        rw [← HE.out, enc_lt hlt, bcells_append]
        simp [bcells, toNat_ofNat_lt (show n < 256 by omega)]
      have G1 := G.out
      rw [e1] at G1
      exact put_step HO.out HM.out hB HB.out HW.out HOB.out G1 G2.out G3.out
    · have hd : decide (128 ≤ (n : Int)) = true := by simp; omega
      go_wp2_with (at_builtin; refine wp_append_one wr rfl (.tmp 20) (.tmp 24) 45 5 rfl Try.underlying45 (.int .u8 0) 1 info5 rfl B _ _ _ (.int .u8 (bits .or .u8 ((n : Int) % 256) 128)) rfl rfl rfl HW.out ?c1 (by omega) (by omega) ?_)
      case c1 => have := HO.out.size; omega
      intro v' w' hown' hgr hwh
      obtain ⟨A', c', rfl⟩ := own_slice hown'
      obtain ⟨k1, k2⟩ := put_cell HB.out HW.out hgr
      have G := hide hown'
      have G2 := hide hgr
      have G3 := hide hwh
      clear hown' hgr hwh
      go_wp2
      go_roundw
      case rel =>
        have e1 : bcells bs1 ++ [Value.int IntKind.u8 (bits .or .u8 ((n : Int) % 256) 128)] = bcells (bs1 ++ [UInt8.ofNat (n % 128 + 128)]) := by
          rw [bits_or128, bcells_append]
          simp [bcells]
          omega
        have G1 := G.out
        rw [e1] at G1
        obtain ⟨o2, p1, p2, p3⟩ := put_step HO.out HM.out hB HB.out HW.out HOB.out G1 G2.out G3.out
        refine ⟨n / 128, o2, _, ?_, by have := HN.out; omega, p1, ?_, p2, p3⟩
        · simp
        · rw [← HE.out, enc_ge hlt]
          simp
      case measure => simp [intOf]; omega
end Go.Proofs.Ytjhciobkofnjfaa
