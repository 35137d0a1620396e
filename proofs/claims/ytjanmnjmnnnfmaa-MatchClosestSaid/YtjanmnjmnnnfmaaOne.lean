/- complinelaw15.one: the instruction with a number. -/
import Derived.Test.YtjanmnjmnnnfmaaMateW
namespace Go.Proofs.Ytjanmnjmnnnfmaa
open Go.RowKit

/-- The rows as they lie, to be read only. -/
def RowsAt (W : World) (g off : Nat) (d : List Ins) : Prop := ∀ i x, d[i]? = some x → W.rangeAt g (off + i * 21) x.row
theorem RowsAt.at_ {W : World} {g off : Nat} {d : List Ins} (h : RowsAt W g off d) {i : Nat} (hi : i < d.length) : W.rangeAt g (off + i * 21) d[i].row := h i _ (List.getElem?_eq_getElem hi)
theorem RowsAt.lt {W : World} {g off : Nat} {d : List Ins} (h : RowsAt W g off d) {i : Nat} (hi : i < d.length) : g < W.heap.size :=
  World.block_lt_of_cell? W _ (h.at_ hi 0 (.int .i64 d[i].id) rfl)
theorem RowsAt.below {W W' : World} {g off B : Nat} {d : List Ins} (h : RowsAt W g off d) (hb : Below B W W') (hg : g < B) : RowsAt W' g off d := fun i x hx => range_below_ (h i x hx) hb hg
def SeenS (W : World) (A : Option Addr) (g off : Nat) (d : List Ins) : Prop := 0 < d.length → A = some ⟨g, off, none⟩ ∧ RowsAt W g off d ∧ g < W.heap.size
theorem SeenS.below {W W' : World} {A : Option Addr} {g off : Nat} {d : List Ins} (h : SeenS W A g off d) (hb : Below W.heap.size W W') : SeenS W' A g off d := fun hn => by
  obtain ⟨h1, h2, h3⟩ := h hn
  exact ⟨h1, h2.below hb h3, Nat.lt_of_lt_of_le h3 hb.size⟩
theorem results_one {fn : Func} {p q : Tmp} (h : fn.results = #[.cell p 25, .tmp q]) (tmps : Array Value) (w : World) (g : Nat) (X : List Value) (u : Value)
    (hp : tmps.getD p undef = .pointer (some ⟨g, 0, none⟩)) (hq : tmps.getD q undef = u) (hr : w.rangeAt g 0 X) (hl : X.length = 21) : (results fn tmps).run Try.prog w = .ok (.tuple #[.agg X.toArray, u]) w := by
  have hp' : tmps[p]?.getD undef = .pointer (some ⟨g, 0, none⟩) := by simpa using hp
  have hq' : tmps[q]?.getD undef = u := by simpa using hq
  simp [results, h, hp', hq', asAddr, run_loadVar_mid (P := Try.prog) w g 0 25 X _ hr Try.underlying25 rfl (by rw [info_inst, hl])]
def OneRel (id : Int) (d : List Ins) (w : World) (left : Nat) (s : Value) (W : World) : Prop :=
  ∃ k : Nat, k ≤ d.length ∧ s = .int .i64 k ∧ left = d.length - k ∧ (∀ j (h : j < d.length), j < k → d[j].id ≠ id) ∧ W.there w.heap.size 0 21 ∧ Below w.heap.size w W

set_option maxHeartbeats 800000 in
set_option maxRecDepth 100000 in
theorem one_any (id : Int) (A : Option Addr) (g off n c : Nat) (d : List Ins) (w : World) (hd : d.length = n) (hs : SeenS w A g off d) (hmax : n ≤ 1000000000) :
    Calls Try.prog 17 #[.slice A n c, .int .i64 id] w fun r w' => (∃ (y : Ins) (b : Bool), r = .returned (.tuple #[.agg y.row.toArray, .bool b]) ∧ (b = true → y.id = id) ∧ ((∃ y ∈ d, y.id = id) → b = true)) ∧ Below w.heap.size w w' := by
  subst hd
  have hb0 : Below w.heap.size w (w.alloc (.cells Ins.zero.row.toArray 25)) := (Below.refl _ w).alloc (Nat.le_refl _) _
  have ht0 := there_new w Ins.zero.row.toArray rfl
  have Hhs := hide hs
  have Hhb0 := hide hb0
  have Hht0 := hide ht0
  clear hs hb0 ht0
  go_enter Try.func17, Try.ntmps17
  go_wp2_with fail
  go_loopg [6] d.length (fun left s wx => OneRel id d w left s wx)
  case atStart => exact ⟨0, Nat.zero_le _, rfl, rfl, fun j _ h => by omega, Hht0.out, Hhb0.out⟩
  case round =>
    obtain ⟨k, hk, rfl, rfl, h0, ht, hb⟩ := hrel
    by_cases hlt : k < d.length
    · have d1 : decide ((k : Int) < (d.length : Int)) = true := by rw [decide_eq_true_iff]; omega
      obtain ⟨rfl, hat, hg⟩ := Hhs.out (by omega)
      have hr := (hat.below hb hg).at_ hlt
      obtain ⟨X, hX⟩ : ∃ X, X = d[k].row := ⟨_, rfl⟩
      have hrow : X.length = 21 := by rw [hX]; rfl
      have hone : ∀ v ∈ X, v.oneCell' = true := by rw [hX]; exact row_one _
      have hci : wr.cell? ⟨g, off + k * 21, none⟩ = some (.int .i64 d[k].id) := hr 0 _ rfl
      rw [← hX] at hr
      by_cases he : d[k].id = id
      · rw [he] at hci
        have Hh0 := hide h0
        have Hht := hide ht
        have Hhb := hide hb
        have Hhat := hide hat
        have Hhr := hide hr
        have HhX := hide hX
        have Hhone := hide hone
        have Hhe := hide he
        clear h0 ht hb hat hr hX hone he
        go_wp2_with (first | (guard_target =~ wpList _ _ _ (Oper.mk _ (Op.load 25 (.tmp 22)) _ _ _ _ :: _) _ _; refine wp_load_row (by rfl) _ rfl g (off + k * 21) rfl X hrow Hhr.out ?_) | (guard_target =~ wpList _ _ _ (Oper.mk _ (Op.store 25 (.tmp 4) _) _ _ _ _ :: _) _ _; refine wp_store_row rfl _ _ rfl w.heap.size 0 rfl X rfl hrow Hhone.out Hht.out ?_))
        refine ⟨rfl, _, results_one rfl _ _ w.heap.size X (.bool true) rfl rfl (World.rangeAt_setCells_same _ _ _ _ (by rw [hrow]; exact Hht.out)) hrow, ⟨d[k], true, by rw [HhX.out], fun _ => Hhe.out, fun _ => rfl⟩, ?_⟩
        exact Hhb.out.trans ((Only.setCells (S := fun k => k = w.heap.size) w.heap.size (.inl rfl) X 0 wr (Only.refl _ _)).toBelow Hhb.out.size (fun k hk => by omega))
      · have d2 : (d[k].id == id) = false := by simpa using he
        obtain ⟨z, hz⟩ : ∃ z, z = d[k].id := ⟨_, rfl⟩
        rw [← hz] at hci d2
        have Hh0 := hide h0
        have Hht := hide ht
        have Hhb := hide hb
        have Hhat := hide hat
        have Hhr := hide hr
        have HhX := hide hX
        have Hhone := hide hone
        have Hhe := hide he
        have Hhz := hide hz
        clear h0 ht hb hat hr hX hone he hz
        go_wp2_with fail
        go_roundg (d.length - (k + 1))
        case measure => omega
        case rel =>
          refine ⟨k + 1, hlt, by go_num, rfl, fun j hj hjk => ?_, Hht.out, Hhb.out⟩
          by_cases e : j = k
          · subst e; exact Hhe.out
          · exact Hh0.out j hj (by omega)
    · have d1 : decide ((k : Int) < (d.length : Int)) = false := by rw [decide_eq_false_iff_not]; omega
      have hno : ∀ y ∈ d, y.id ≠ id := by
        intro y hy
        obtain ⟨j, hj, rfl⟩ := List.getElem_of_mem hy
        exact h0 j hj (by omega)
      have hone : ∀ v ∈ Ins.zero.row, v.oneCell' = true := row_one _
      have Hh0 := hide h0
      have Hht := hide ht
      have Hhb := hide hb
      have Hhno := hide hno
      clear h0 ht hb hno
      go_wp2_with (guard_target =~ wpList _ _ _ (Oper.mk _ (Op.store 25 (.tmp 4) _) _ _ _ _ :: _) _ _; refine wp_store_row rfl _ _ rfl w.heap.size 0 rfl Ins.zero.row rfl rfl hone Hht.out ?_)
      refine ⟨rfl, _, results_one rfl _ _ w.heap.size Ins.zero.row (.bool false) rfl rfl (World.rangeAt_setCells_same _ _ _ _ (by exact Hht.out)) rfl, ⟨Ins.zero, false, rfl, (fun h => by cases h), (fun ⟨y, hy, hyi⟩ => absurd hyi (Hhno.out y hy))⟩, ?_⟩
      exact Hhb.out.trans ((Only.setCells (S := fun k => k = w.heap.size) w.heap.size (.inl rfl) _ 0 wr (Only.refl _ _)).toBelow Hhb.out.size (fun k hk => by omega))
end Go.Proofs.Ytjanmnjmnnnfmaa
