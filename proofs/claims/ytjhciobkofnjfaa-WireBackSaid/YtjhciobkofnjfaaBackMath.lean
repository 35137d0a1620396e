/- What is written of steps, and read again. -/
import Derived.Test.YtjhciobkofnjfaaTwo
namespace Go.Proofs.Ytjhciobkofnjfaa
open Go.RowKit WM

def encOp (x : OpD) : List UInt8 := encs x.N ++ (x.T.flatMap encT ++ x.B.map encB)
def stO (st : Int × List UInt8) (x : OpD) : Int × List UInt8 :=
  ((stT x.T (st.1, if st.1 = 0 then st.2 ++ encs x.N else st.2)).1,
   if (stT x.T (st.1, if st.1 = 0 then st.2 ++ encs x.N else st.2)).1 = 0 then (stT x.T (st.1, if st.1 = 0 then st.2 ++ encs x.N else st.2)).2 ++ x.B.map encB else (stT x.T (st.1, if st.1 = 0 then st.2 ++ encs x.N else st.2)).2)

theorem putTexts_is : ∀ (T : List ByteArray) (bs : List UInt8), (putTexts T (0, bs)).1 = 2 ∨ (putTexts T (0, bs) = (0, bs ++ T.flatMap encT) ∧ ∀ s ∈ T, s.size ≤ 1000)
  | [], bs => .inr ⟨by simp [putTexts], by simp⟩
  | s :: T, bs => by
    rw [putTexts, if_neg (by simp)]
    by_cases h : 1000 < s.size
    · rw [if_pos h]; exact .inl rfl
    · rw [if_neg h]
      rcases putTexts_is T (bs ++ encT s) with h1 | ⟨h1, h2⟩
      · exact .inl h1
      · refine .inr ⟨by rw [h1]; simp, ?_⟩
        intro t ht
        rcases List.mem_cons.1 ht with rfl | ht
        · omega
        · exact h2 t ht
theorem stO_is (st : Int × List UInt8) (x : OpD) (h : st.1 = 0 ∨ st.1 = 2) : (stO st x).1 = 2 ∨ (st.1 = 0 ∧ stO st x = (0, st.2 ++ encOp x) ∧ ∀ s ∈ x.T, s.size ≤ 1000) := by
  rcases h with h | h
  · unfold stO
    rw [if_pos h, h]
    unfold stT
    rw [if_pos rfl]
    rcases putTexts_is x.T (st.2 ++ encs x.N) with h1 | ⟨h1, h2⟩
    · exact .inl h1
    · refine .inr ⟨rfl, ?_, h2⟩
      rw [h1]
      simp [encOp]
  · refine .inl ?_
    unfold stO
    rw [if_neg (by omega)]
    unfold stT
    rw [if_neg (by dsimp only; omega)]
    exact h
theorem stOs_is : ∀ (xs : List OpD) (st : Int × List UInt8), (st.1 = 0 ∨ st.1 = 2) → (xs.foldl stO st).1 = 2 ∨ (st.1 = 0 ∧ xs.foldl stO st = (0, st.2 ++ xs.flatMap encOp) ∧ ∀ x ∈ xs, ∀ s ∈ x.T, s.size ≤ 1000)
  | [], st, h => by
    rcases h with h | h
    · exact .inr ⟨h, by simp only [List.foldl_nil, List.flatMap_nil, List.append_nil]; rw [← h], by simp⟩
    · exact .inl h
  | x :: xs, st, h => by
    rw [List.foldl_cons]
    rcases stO_is st x h with h1 | ⟨h1, h2, h3⟩
    · rcases stOs_is xs (stO st x) (.inr h1) with h4 | ⟨h4, _⟩
      · exact .inl h4
      · omega
    · rcases stOs_is xs (stO st x) (.inl (by rw [h2])) with h4 | ⟨_, h5, h6⟩
      · exact .inl h4
      · refine .inr ⟨h1, by rw [h5, h2]; simp, ?_⟩
        intro y hy
        rcases List.mem_cons.1 hy with rfl | hy
        · exact h3
        · exact h6 y hy
theorem stO_len (st : Int × List UInt8) (x : OpD) (hx : ∀ v ∈ x.N, bd v) : ((stO st x).2.length : Int) ≤ st.2.length + 10 * x.N.length + 10 * x.T.length + szT x.T + x.B.length := by
  have h1 := encs_len x.N hx
  have h2 := st1s_len x.T (st.1, if st.1 = 0 then st.2 ++ encs x.N else st.2)
  rw [st1_all] at h2
  have h3 : (if st.1 = 0 then st.2 ++ encs x.N else st.2).length ≤ st.2.length + 10 * x.N.length := by
    split
    · rw [List.length_append]; omega
    · omega
  unfold stO
  dsimp only
  generalize stT x.T (st.1, if st.1 = 0 then st.2 ++ encs x.N else st.2) = p at h2 ⊢
  dsimp only at h2
  split
  · rw [List.length_append, List.length_map]; omega
  · omega
theorem numP_enc {v : Int} (h : bd v) (rest : List UInt8) : numP (encI v ++ rest) = (v, 0, rest) := by
  rw [numP, dec_encI rest h.1 h.2]
  simp [uz_zz]
theorem encs_drop {l : List Int} {k : Nat} (h : k < l.length) (rest : List UInt8) : encs (l.drop k) ++ rest = encI l[k] ++ (encs (l.drop (k + 1)) ++ rest) := by
  rw [drop_cons h, encs, List.flatMap_cons, List.append_assoc]
  rfl
theorem encTs_drop {l : List ByteArray} {k : Nat} (h : k < l.length) (rest : List UInt8) : (l.drop k).flatMap encT ++ rest = encT l[k] ++ ((l.drop (k + 1)).flatMap encT ++ rest) := by
  rw [drop_cons h, List.flatMap_cons, List.append_assoc]
theorem encBs_drop {l : List Bool} {k : Nat} (h : k < l.length) (rest : List UInt8) : (l.drop k).map encB ++ rest = encB l[k] :: ((l.drop (k + 1)).map encB ++ rest) := by
  rw [drop_cons h, List.map_cons, List.cons_append]
theorem szOp_nonneg_ (x : OpD) : 0 ≤ szOp x := by have := szT_nonneg x.T; unfold szOp; omega
theorem szOps_nonneg_ : ∀ l : List OpD, 0 ≤ szOps l
  | [] => by simp [szOps]
  | x :: l => by
    have h1 := szOps_nonneg_ l
    have h2 := szOp_nonneg_ x
    simp only [szOps, List.map_cons, List.sum_cons] at h1 ⊢
    omega
theorem szOps_take_ : ∀ (l : List OpD) (k : Nat), szOps (l.take k) ≤ szOps l
  | [], k => by simp
  | s :: l, 0 => by have := szOps_nonneg_ (s :: l); simpa [szOps] using this
  | s :: l, k + 1 => by
    have := szOps_take_ l k
    simp only [szOps, List.take_succ_cons, List.map_cons, List.sum_cons] at this ⊢
    omega
end Go.Proofs.Ytjhciobkofnjfaa
