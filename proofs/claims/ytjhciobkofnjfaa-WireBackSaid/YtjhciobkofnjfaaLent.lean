/- complinebook.LentInts, StaysInts, LentTexts, StaysTexts: lists with a mark behind them. -/
import Derived.Test.YtjhciobkofnjfaaBool
import Derived.Deep.QuietTactic
namespace Go.Proofs.Ytjhciobkofnjfaa
open Go.RowKit WM

section
variable {P : Program} {ops : Array Oper} {rest : List Oper} {o : Oper} {a : Act} {Q : Exit → Act → World → Prop}
/-- 'append(s, x...)', x a slice that is read. -/
theorem wp_append_all (W : World) (hgd : o.guard = none) (s x : Operand) (t e : TypeId)
    (ho : o.op = .call { callee := .builtin .append, args := #[s, x], argTypes := #[t, t] })
    (ht : P.underlying t = some (.slice e)) (z : Value) (bytes : Nat) (hinfo : (P.info? e).map (fun i => (i.zero, i.size, i.bytes)) = some (some z, 1, bytes)) (hz : z.cells.size = 1)
    (base : Nat) (A : Option Addr) (m c : Nat) (ys : List Value) (hs : a.eval s = .slice none 0 0) (hx : a.eval x = .slice A m c) (h1 : ∀ y ∈ ys, y.oneCell' = true)
    (HR : Reads W A m ys) (hbase : base ≤ W.heap.size) (hl : m * bytes ≤ 140737488355328) (hn : m ≤ 140737488355328)
    (h : ∀ v1 w1, w1.ownsRow base e 1 v1 m ys → W.grownBy w1 none → wpList P ops Q rest (a.put o.dst v1) w1) :
    wpList P ops Q (o :: rest) a W := by
  obtain ⟨i0, hi, hz0, hz1, hz2⟩ := info_parts hinfo
  have hml := HR.1
  cases A with
  | none =>
    have hm : m = 0 := by
      rcases Nat.eq_zero_or_pos m with hm | hm
      · exact hm
      · obtain ⟨ad, hA, _⟩ := HR.2 hm
        cases hA
    subst hm
    have hy : ys = [] := List.eq_nil_of_length_eq_zero (by omega)
    subst hy
    refine wpList_plain hgd fun K hK => ?_
    have hr : (Builtin.append_ #[t, t] o.type #[.slice none 0 0, .slice none 0 c]).run P W = .ok (.slice none 0 0) W := by
      simp [Builtin.append_, run_underlying ht, sizeOf, typeInfo, hi, Builtin.lenOf, Builtin.firstCells]
    unfold Oper.wp execOp
    simp only [ho, resolve, invoke, builtin, Sem.run_bind, Sem.run_pure, Result.andThen_ok, List.map_toArray, List.map_cons, List.map_nil, hs, hx, hr]
    exact hK _ _ (h _ _ (World.ownsRow_nil W base e 1) ⟨rfl, rfl, rfl, Nat.le_refl _, fun _ _ _ => rfl⟩)
  | some ad =>
    have hat : ∀ (j : Nat) (u : Value), ys[j]? = some u → W.cell? (ad.add j) = some u := by
      intro j u hj
      have hjm : j < m := by
        have := (List.getElem?_eq_some_iff.1 hj).1
        omega
      obtain ⟨ad', u', hA, hu, hc⟩ := HR.at_ hjm
      cases hA
      rw [hj] at hu
      cases hu
      exact hc
    refine wpList_append_own_at W hgd s x t ho base e i0 z 1 bytes ht hi hz0 hz1 hz2 hz (by omega) (.slice none 0 0) 0 [] hs (World.ownsRow_nil W base e 1) ad m c ys hx (by simpa using hml)
      hat h1 (by simp only [maxLen]; omega) (by simpa using hl) hbase ?_
    intro v1 w1 hown hg _ _
    exact h v1 w1 (by simpa using hown) hg
end

theorem own_row_pos {w : World} {base n : Nat} {e : TypeId} {v : Value} {xs : List Value} (h : w.ownsRow base e 1 v (n + 1) xs) :
    ∃ g c, v = .slice (some ⟨g, 0, none⟩) (n + 1) c ∧ n + 1 ≤ c ∧ c ≤ maxLen ∧ base ≤ g ∧ g < w.heap.size ∧ Reads w (some ⟨g, 0, none⟩) (n + 1) xs := by
  have hl := h.1
  rcases h.2 with ⟨_, h0⟩ | ⟨g, cap, cur, rfl, hbg, hg, hnc, hcm, _, _⟩
  · omega
  · exact ⟨g, cap, rfl, hnc, hcm, hbg, blk_lt hg, by omega, fun _ => ⟨_, rfl, h.cells (g := g) rfl⟩⟩
theorem grown_below {w w1 : World} {row : Option Nat} (hg : w.grownBy w1 row) (hr : ∀ k, row = some k → w.heap.size ≤ k) : Below w.heap.size w w1 :=
  ((Only.refl (fun k => w.heap.size ≤ k) w).grown hg (fun k hk => .inl (hr k hk))).toBelow (Nat.le_refl _) (fun _ h => h)

theorem infoI : (Try.prog.info? 3).map (fun i => (i.zero, i.size, i.bytes)) = some (some (.int .i64 0), 1, 8) := by kernel_rfl
theorem infoS : (Try.prog.info? 9).map (fun i => (i.zero, i.size, i.bytes)) = some (some (.string ⟨#[]⟩), 1, 16) := by kernel_rfl

def Lent (w : World) (n : Nat) (ys : List Value) (r : Ending) (w' : World) : Prop :=
  ∃ g c, r = .returned (.slice (some ⟨g, 0, none⟩) n c) ∧ n + 1 ≤ c ∧ c ≤ maxLen ∧ w.heap.size ≤ g ∧ g < w'.heap.size ∧ Reads w' (some ⟨g, 0, none⟩) (n + 1) ys ∧ Below w.heap.size w w'

theorem lent_end {w w1 w2 : World} {e : TypeId} {v1 v2 : Value} {n : Nat} {xs : List Value} {y : Value} (h1 : w1.ownsRow w.heap.size e 1 v1 n xs) (g1 : w.grownBy w1 none) (h2 : w2.ownsRow w.heap.size e 1 v2 (n + 1) (xs ++ [y])) (g2 : w1.grownBy w2 v1.ownBlock) :
    ∃ g c, v2 = .slice (some ⟨g, 0, none⟩) (n + 1) c ∧ n + 1 ≤ c ∧ c ≤ maxLen ∧ w.heap.size ≤ g ∧ g < w2.heap.size ∧ Reads w2 (some ⟨g, 0, none⟩) (n + 1) (xs ++ [y]) ∧ Below w.heap.size w w2 := by
  obtain ⟨g, c, hv, hc, hcm, hbg, hlt, hR⟩ := own_row_pos h2
  refine ⟨g, c, hv, hc, hcm, hbg, hlt, hR, ?_⟩
  have b1 := grown_below g1 (by simp)
  have b2 : Only (fun k => w.heap.size ≤ k) w1 w2 := (Only.refl (fun k => w.heap.size ≤ k) w1).grown g2 (fun k hk => .inl (own_base h1 k hk))
  exact b1.trans (b2.toBelow b1.size (fun _ h => h))

set_option maxRecDepth 100000 in
theorem lent_ints (A : Option Addr) (n c : Nat) (xs : List Int) (w : World) (hr : Reads w A n (ints xs)) (hn : n ≤ 100000) :
    Calls Try.prog 25 #[.slice A n c] w (Lent w n (ints xs ++ [.int .i64 (-77)])) := by
  go_enter Try.func25, Try.ntmps25
  go_wp2_with (at_builtin; refine wp_append_all w rfl (.const (.slice none 0 0)) (.tmp 3) 50 3 rfl Try.underlying50 (.int .i64 0) 8 infoI rfl w.heap.size A n c (ints xs) rfl rfl (by intro y hy; simp only [ints, List.mem_map] at hy; obtain ⟨_, _, rfl⟩ := hy; rfl) hr (Nat.le_refl _) (by omega) (by omega) ?_)
  intro v1 w1 hown1 hg1
  have O1 := hide hown1
  have G1 := hide hg1
  have hsz : w.heap.size ≤ w1.heap.size := hg1.size
  clear hown1 hg1 hr
  go_wp2_with (at_builtin; refine wp_append_one w1 rfl (.tmp 4) (.tmp 5) 50 3 rfl Try.underlying50 (.int .i64 0) 8 infoI rfl w.heap.size v1 n (ints xs) (.int .i64 (-77)) rfl rfl rfl O1.out hsz (by omega) (by omega) ?_)
  intro v2 w2 hown2 hg2 _
  obtain ⟨g, c2, rfl, hc2, hcm, hbg, hlt, hR, hB⟩ := lent_end O1.out G1.out hown2 hg2
  have HR := hide hR
  have HB := hide hB
  clear hown2 hg2 hR hB
  unfold maxLen at hcm
  go_wp2_with fail
  go_ret
  exact ⟨g, c2, rfl, hc2, by unfold maxLen; exact hcm, hbg, hlt, HR.out, HB.out⟩

set_option maxRecDepth 100000 in
theorem lent_texts (A : Option Addr) (n c : Nat) (xs : List ByteArray) (w : World) (hr : Reads w A n (strs xs)) (hn : n ≤ 100000) :
    Calls Try.prog 28 #[.slice A n c] w (Lent w n (strs xs ++ [.string ⟨#[109, 97, 114, 107]⟩])) := by
  go_enter Try.func28, Try.ntmps28
  go_wp2_with (at_builtin; refine wp_append_all w rfl (.const (.slice none 0 0)) (.tmp 3) 51 9 rfl Try.underlying51 (.string ⟨#[]⟩) 16 infoS rfl w.heap.size A n c (strs xs) rfl rfl (by intro y hy; simp only [strs, List.mem_map] at hy; obtain ⟨_, _, rfl⟩ := hy; rfl) hr (Nat.le_refl _) (by omega) (by omega) ?_)
  intro v1 w1 hown1 hg1
  have O1 := hide hown1
  have G1 := hide hg1
  have hsz : w.heap.size ≤ w1.heap.size := hg1.size
  clear hown1 hg1 hr
  go_wp2_with (at_builtin; refine wp_append_one w1 rfl (.tmp 4) (.tmp 5) 51 9 rfl Try.underlying51 (.string ⟨#[]⟩) 16 infoS rfl w.heap.size v1 n (strs xs) (.string ⟨#[109, 97, 114, 107]⟩) rfl rfl rfl O1.out hsz (by omega) (by omega) ?_)
  intro v2 w2 hown2 hg2 _
  obtain ⟨g, c2, rfl, hc2, hcm, hbg, hlt, hR, hB⟩ := lent_end O1.out G1.out hown2 hg2
  have HR := hide hR
  have HB := hide hB
  clear hown2 hg2 hR hB
  unfold maxLen at hcm
  go_wp2_with fail
  go_ret
  exact ⟨g, c2, rfl, hc2, by unfold maxLen; exact hcm, hbg, hlt, HR.out, HB.out⟩
end Go.Proofs.Ytjhciobkofnjfaa
