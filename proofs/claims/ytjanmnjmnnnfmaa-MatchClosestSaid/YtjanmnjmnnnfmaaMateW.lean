/- match.Mate. -/
import Derived.Test.YtjanmnjmnnnfmaaMate
import Derived.Test.YtjanmnjmnnnfmaaMin
namespace Go.Proofs.Ytjanmnjmnnnfmaa
open Go.RowKit

/-- What Mate tells. -/
def cand (x : Ins) (close : Int) (d : List Ins) : List Ins := d.filter fun y => !(y.id == x.id || !fitsP x y close)
def mateP (x : Ins) (close : Int) (d : List Ins) : Int × Bool := if (cand x close d).length = 0 then (0, false) else ((minL (nearI x) (cand x close d)).id, true)
/-- A slice that came in, or is the call's own. -/
def Seen (W : World) (A : Option Addr) (n : Nat) (d : List Ins) : Prop := d.length = n ∧ ∀ ad, A = some ad → ∀ j u, (rowsOf d)[j]? = some u → W.cell? (ad.add j) = some u
theorem Seen.below {W W' : World} {A : Option Addr} {n : Nat} {d : List Ins} (h : Seen W A n d) (hb : Below W.heap.size W W') : Seen W' A n d :=
  ⟨h.1, fun ad ha j u hu => by
    have h1 := h.2 ad ha j u hu
    exact (hb.cell (World.block_lt_of_cell? W _ h1)).trans h1⟩
theorem eg34 : ∀ args w, (callFunc 34 args).run Try.prog w = .ok (.enter 34 args) w := enters_of Try.func34 (by kernel_rfl) rfl
theorem eg36 : ∀ args w, (callFunc 36 args).run Try.prog w = .ok (.enter 36 args) w := enters_of Try.func36 (by kernel_rfl) rfl
theorem minL_mem (c : Ins → Ins → Int) (d : List Ins) (h : 0 < d.length) : minL c d ∈ d := by
  cases d with
  | nil => simp at h
  | cons x d =>
    rcases minFrom_mem c d x with h1 | h1
    · show minFrom c x d ∈ _; rw [h1]; simp
    · show minFrom c x d ∈ _; simp [h1]

/-- Clone, of nil too. -/
theorem clone_seen (A : Option Addr) (n c : Nat) (d : List Ins) (w : World) (hs : Seen w A n d) (hA : A = none → n = 0) (hmax : n ≤ 1000000000) :
    Calls Try.prog 33 #[.slice A n c] w fun r w' => (∃ A c g, r = .returned (.slice A n c) ∧ InsS w' A g 0 d ∧ w.heap.size ≤ g ∧ n ≤ c) ∧ Below w.heap.size w w' := by
  cases A with
  | none =>
    have h0 := hA rfl
    subst h0
    have hd : d = [] := List.eq_nil_of_length_eq_zero hs.1
    subst hd
    refine (clone_nil 0 c w).mono ?_
    rintro r w' ⟨rfl, rfl⟩
    exact ⟨⟨none, 0, w'.heap.size, rfl, fun h => by simp at h, Nat.le_refl _, Nat.le_refl _⟩, Below.refl _ _⟩
  | some ad => exact clone_any ad n c d w hs.1 hmax (hs.2 ad rfl)

set_option maxHeartbeats 1600000 in
set_option maxRecDepth 100000 in
theorem mate_any (x : Ins) (X : List Value) (close : Int) (A : Option Addr) (n c : Nat) (d : List Ins) (w : World) (hX : RowIs x X) (hc : bd close) (hx : bd x.am) (hs : Seen w A n d) (hA : A = none → n = 0) (hok : ∀ y ∈ d, bd y.am) (hmax : n ≤ 1000000000) :
    Calls Try.prog 16 #[.agg X.toArray, .int .i64 close, .slice A n c] w fun r w' => r = .returned (.tuple #[.int .i64 (mateP x close d).1, .bool (mateP x close d).2]) ∧ Below w.heap.size w w' := by
  have hb0 := below_two w (.cells X.toArray 25) (.cells #[.int .i64 close] 3)
  have hr0 : ((w.alloc (.cells X.toArray 25)).alloc (.cells #[.int .i64 close] 3)).rangeAt w.heap.size 0 X := by
    intro j v hv
    rw [Nat.zero_add, blk_cell (blk_alloc (blk_new w _) _) j]
    simpa using hv
  have hc0 : ((w.alloc (.cells X.toArray 25)).alloc (.cells #[.int .i64 close] 3)).cell? ⟨w.heap.size + 1, 0, none⟩ = some (.int .i64 close) := by
    have h1 := blk_cell (blk_new (w.alloc (.cells X.toArray 25)) (.cells #[.int .i64 close] 3)) 0
    rw [show (w.alloc (.cells X.toArray 25)).heap.size = w.heap.size + 1 by simp] at h1
    exact h1
  have hn0 : ((w.alloc (.cells X.toArray 25)).alloc (.cells #[.int .i64 close] 3)).heap.size = w.heap.size + 2 := by simp
  have hs0 := hs.below hb0
  have hdl := hs.1
  have Hhb0 := hide hb0
  have Hhr0 := hide hr0
  have Hhc0 := hide hc0
  have Hhs := hide hs
  have Hhs0 := hide hs0
  clear hb0 hr0 hc0 hs hs0
  go_enter Try.func16, Try.ntmps16
  go_wp2_with fail
  generalize (w.alloc (.cells X.toArray 25)).alloc (.cells #[.int .i64 close] 3) = W1 at Hhb0 Hhr0 Hhc0 Hhs0 hn0 ⊢
  refine (clone_seen A n c d W1 Hhs0.out hA hmax).mono ?_
  rintro r W2 ⟨⟨A2, c2, g, rfl, hs2, hg2, hnc⟩, hb2⟩
  have hr2 := range_below_ Hhr0.out hb2 (by omega)
  have hc2 := (hb2.cell (p := ⟨w.heap.size + 1, 0, none⟩) (by show w.heap.size + 1 < _; omega)).trans Hhc0.out
  have hbw2 := Hhb0.out.trans (hb2.mono Hhb0.out.size)
  have hsz2 : w.heap.size + 2 ≤ W2.heap.size := by have := hb2.size; omega
  have hp1 : PredOk W2 (fun k => k = g) 34 #[.pointer (some ⟨w.heap.size, 0, none⟩), .pointer (some ⟨w.heap.size + 1, 0, none⟩)] (fun y => y.id == x.id || !fitsP x y close) (fun y => bd y.am) := by
    intro W y hy hW
    refine mate1 x y X y.row close w.heap.size (w.heap.size + 1) W hX (row_is y) hc hx hy (range_only hr2 hW (by omega)) (hW.cell (p := ⟨w.heap.size + 1, 0, none⟩) (by show ¬ w.heap.size + 1 = g; omega) hc2) ?_ ?_
    · have := hW.size; omega
    · have := hW.size; omega
  have hdel := deleteFunc_any 34 _ eg34 _ A2 g 0 n c2 d W2 hdl hmax hnc hs2 hp1 hok
  change Calls _ _ _ _ (fun r w' => r = .returned (.slice A2 (cand x close d).length c2) ∧ InsS w' A2 g 0 (cand x close d) ∧ _) at hdel
  have hokc : ∀ y ∈ cand x close d, bd y.am := fun y hy => hok y (List.mem_filter.1 hy).1
  have hlc : (cand x close d).length ≤ n := by rw [← hdl]; exact List.length_filter_le _ _
  obtain ⟨l, hl⟩ : ∃ l, l = cand x close d := ⟨_, rfl⟩
  rw [← hl] at hdel hokc hlc
  have Hhs2 := hide hs2
  have Hhb2 := hide hb2
  have Hhr2 := hide hr2
  have Hhc2 := hide hc2
  have Hhbw2 := hide hbw2
  have Hhp1 := hide hp1
  have Hhdel := hide hdel
  have Hhl := hide hl
  clear hs2 hb2 hr2 hc2 hbw2 hp1 hdel hl
  go_wp2_with fail
  refine Hhdel.out.mono ?_
  rintro r W3 ⟨rfl, hs3, ho3⟩
  have hb3 : Below w.heap.size w W3 := Hhbw2.out.trans (ho3.toBelow Hhbw2.out.size (fun k hk => by omega))
  have hr3 := range_only Hhr2.out ho3 (by omega)
  have hsz3 := ho3.size
  by_cases h0 : l.length = 0
  · have d1 : ((l.length : Int) == 0) = true := by rw [h0]; rfl
    have hm : mateP x close d = (0, false) := by rw [mateP, ← Hhl.out, if_pos h0]
    have Hhs3 := hide hs3
    have Hho3 := hide ho3
    have Hhb3 := hide hb3
    have Hhr3 := hide hr3
    have Hhm := hide hm
    clear hs3 ho3 hb3 hr3 hm
    go_wp2_with fail
    go_ret2
    rw [Hhm.out]
    exact ⟨rfl, Hhb3.out⟩
  · have d1 : ((l.length : Int) == 0) = false := beq_eq_false_iff_ne.2 (by omega)
    obtain ⟨hA2, hat3⟩ := hs3 (by omega)
    have hp2 : CmpOk W3 (fun _ => False) 36 #[.pointer (some ⟨w.heap.size, 0, none⟩)] (nearI x) (fun y => bd y.am) := by
      intro W a b ha hb hW
      refine mate2 x a b X a.row b.row w.heap.size W hX (row_is a) (row_is b) hx ha hb (range_only hr3 hW (fun h => h)) ?_
      have := hW.size; omega
    have hmin := minFunc_any (S := fun _ => False) 36 _ eg36 (nearI x) g 0 l.length c2 l W3 rfl (by omega) (by omega) hat3 hp2 hokc
    have hm : mateP x close d = ((minL (nearI x) l).id, true) := by rw [mateP, ← Hhl.out, if_neg h0]
    subst hA2
    obtain ⟨m, hmm⟩ : ∃ m, m = minL (nearI x) l := ⟨_, rfl⟩
    rw [← hmm] at hmin hm
    have Hhat3 := hide hat3
    have Hho3 := hide ho3
    have Hhb3 := hide hb3
    have Hhr3 := hide hr3
    have Hhm := hide hm
    have Hhmin := hide hmin
    have Hhmm := hide hmm
    clear hat3 ho3 hb3 hr3 hm hmin hmm
    go_wp2_with fail
    refine Hhmin.out.mono ?_
    rintro r W4 ⟨rfl, hb4⟩
    have hb5 := Hhb3.out.trans (hb4.mono Hhb3.out.size)
    have hfld : ∀ W, (Instr.field 25 (.agg m.row.toArray) 0).run Try.prog W = .ok (.int .i64 m.id) W := fun _ => by kernel_rfl
    have Hhb4 := hide hb4
    have Hhb5 := hide hb5
    clear hb4 hb5
    go_wp2_with fail
    go_ret2
    rw [Hhm.out]
    exact ⟨rfl, Hhb5.out⟩
end Go.Proofs.Ytjanmnjmnnnfmaa
