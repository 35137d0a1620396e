/- What a share is, in plain numbers; an instruction's fields set. -/
import Derived.Test.YtjhciobkofnjfaaAlive12
namespace Go.Proofs.Ytjhciobkofnjfaa
open Go.RowKit

theorem share_valid {am k qty : Int} (h0 : 0 ≤ am) (h1 : am ≤ 1125899906842624) (hk0 : 0 ≤ k) (hk : k ≤ qty) (hq : 1 ≤ qty) : shareP am k qty = (am * k / qty, 0) ∧ 0 ≤ am * k / qty ∧ am * k / qty ≤ am := by
  obtain ⟨a, rfl⟩ := Int.eq_ofNat_of_zero_le h0
  obtain ⟨b, rfl⟩ := Int.eq_ofNat_of_zero_le hk0
  obtain ⟨c, rfl⟩ := Int.eq_ofNat_of_zero_le (show 0 ≤ qty by omega)
  have hle : a * b / c ≤ a := by
    refine Nat.div_le_of_le_mul ?_
    rw [Nat.mul_comm c a]
    exact Nat.mul_le_mul_left a (by omega)
  have e : (a : Int) * b / c = ((a * b / c : Nat) : Int) := by push_cast; rfl
  rw [e]
  rw [shareP, if_neg (by omega), mulDivP]
  simp only [Int.toNat_natCast]
  generalize a * b / c = z at hle ⊢
  rw [if_neg (by omega)]
  exact ⟨rfl, by omega, by omega⟩
theorem owes_valid {qty am d p q : Int} (h0 : 0 ≤ am) (h1 : am ≤ 1125899906842624) (hd : 0 ≤ d) (hq0 : 0 ≤ q) (hk : d + q ≤ qty) (hq : 1 ≤ qty) (hp0 : 0 ≤ p) (hp : p ≤ am * (d + q) / qty) : owesP qty am d p q = (am * (d + q) / qty - p, 0) := by
  obtain ⟨e, e1, e2⟩ := share_valid h0 h1 (show 0 ≤ d + q by omega) hk hq
  have hl : leftP qty d = qty - d := by rw [leftP, if_neg (by omega)]
  rw [owesP, if_neg (by rw [hl]; omega), e, if_neg (by simp), if_neg (by dsimp only; omega)]
theorem owes_more {qty am d p q : Int} (hd : 0 ≤ d) (hdq : d ≤ qty) (hq : qty - d < q) : owesP qty am d p q = (0, 1) := by
  have hl : leftP qty d = qty - d := by rw [leftP, if_neg (by omega)]
  rw [owesP, if_pos (by rw [hl]; exact .inr (.inl hq))]
theorem share_mono {am k l qty : Int} (h0 : 0 ≤ am) (hq : 1 ≤ qty) (hkl : k ≤ l) : am * k / qty ≤ am * l / qty := Int.ediv_le_ediv (by omega) (Int.mul_le_mul_of_nonneg_left hkl h0)
theorem share_all {am qty : Int} (hq : 1 ≤ qty) : am * qty / qty = am := Int.mul_ediv_cancel _ (by omega)

theorem range_set {w : World} {g j : Nat} {X : List Value} (hj : j < 21) (v : Value) (h : w.rangeAt g 0 X) (ht : w.there g 0 21) : (w.setCell ⟨g, j, none⟩ v).rangeAt g 0 (X.set j v) ∧ (w.setCell ⟨g, j, none⟩ v).there g 0 21 := by
  have ht2 := World.there_setCells ht g j [v]
  refine ⟨fun i u hu => ?_, ht2⟩
  rw [Nat.zero_add]
  by_cases hij : j = i
  · subst hij
    have hs := (ht j hj).1
    rw [Nat.zero_add] at hs
    obtain ⟨u0, hu0⟩ := Option.isSome_iff_exists.1 hs
    rw [World.cell?_setCell_same _ _ _ hu0]
    rw [List.getElem?_set_self' ] at hu
    cases hx : X[j]? with
    | none => rw [hx] at hu; simp at hu
    | some y => rw [hx] at hu; simpa using hu
  · rw [World.cell?_setCell_other _ _ _ _ (by intro e; injection e with _ e2 _; exact hij e2)]
    rw [List.getElem?_set_ne hij] at hu
    exact range_at h i u hu
theorem zrow_set (qty am d p d' p' : Int) : ((zrow qty am d p).set 19 (.int .i64 d')).set 20 (.int .i64 p') = zrow qty am d' p' := rfl
theorem there_cell {w : World} {g j : Nat} (h : w.there g 0 21) (hj : j < 21) : w.frozen? ⟨g, j, none⟩ = false := by
  have := (h j hj).2
  rwa [Nat.zero_add] at this
theorem there_below {w w1 : World} {g : Nat} {B : Nat} (h : w.there g 0 21) (hb : Below B w w1) (hg : g < B) : w1.there g 0 21 := fun j hj => by
  obtain ⟨h1, h2⟩ := h j hj
  obtain ⟨u, hu⟩ := Option.isSome_iff_exists.1 h1
  refine ⟨?_, ?_⟩
  · rw [hb.cell (p := ⟨g, 0 + j, none⟩) hg, hu]; rfl
  · have e := hb.block g hg
    unfold World.frozen? at h2 ⊢
    simp only at h2 ⊢
    rw [e]
    exact h2
end Go.Proofs.Ytjhciobkofnjfaa
