/- A region that draws its order, whose last operation writes what an earlier one has read. Nothing of the program. -/
import Derived.Test.YtjanmnjmnnnfmaaCertT
namespace Go.Proofs.Ytjanmnjmnnnfmaa
namespace RC
open Go.RowKit
section
variable {P : Program} {ops : Array Oper}

/-- As certB, but for what the operation z writes. -/
def certL (ops : Array Oper) (z : Nat) : Bool :=
  Region.noSelect ops && (List.range ops.size).all fun i => match ops[i]? with
    | none => true
    | some o => (o.after.all fun e => !Region.binds .any e || decide (e.on < i)) && (o.looksAt ops).all fun d => (List.range ops.size).all fun j => match ops[j]? with
      | none => true
      | some oj => j == z || oj.dst != some d || o.after.any fun e => Region.binds .any e && e.on == j
def isDstL (ops : Array Oper) (z t : Nat) : Bool := (List.range ops.size).any fun j => j != z && match ops[j]? with | some o => o.dst == some t | none => false
/-- Every other one is waited for, by a later one, and z by none. -/
def lastL (ops : Array Oper) (z : Nat) : Bool := decide (z < ops.size) && (List.range ops.size).all fun j => j == z || (List.range ops.size).any fun k => decide (j < k) && waitsB ops k j
theorem certL_spec {z : Nat} (h : certL ops z = true) : Region.noSelect ops = true ∧ ∀ (i : Nat) o, ops[i]? = some o → (∀ e ∈ o.after, Region.binds .any e = true → e.on < i) ∧
    ∀ d ∈ o.looksAt ops, ∀ (j : Nat) oj, ops[j]? = some oj → j ≠ z → oj.dst = some d → ∃ e ∈ o.after, Region.binds .any e = true ∧ e.on = j := by
  simp only [certL, Bool.and_eq_true] at h
  refine ⟨h.1, fun i o hi => ?_⟩
  have h1 := List.all_eq_true.1 h.2 i (List.mem_range.2 (Array.getElem?_eq_some_iff.1 hi).1)
  simp only [hi, Bool.and_eq_true] at h1
  refine ⟨fun e he hb => by simpa [hb] using Array.all_eq_true'.1 h1.1 e he, fun d hd j oj hj hjz hdst => ?_⟩
  have h2 := List.all_eq_true.1 (List.all_eq_true.1 h1.2 d hd) j (List.mem_range.2 (Array.getElem?_eq_some_iff.1 hj).1)
  have hz : (j == z) = false := by simpa using hjz
  simp only [hj, hdst, hz, Bool.or_eq_true, bne_self_eq_false, Bool.false_eq_true, false_or] at h2
  obtain ⟨e, he, hb⟩ := Array.any_eq_true'.1 h2
  simp only [Bool.and_eq_true, beq_iff_eq] at hb
  exact ⟨e, he, hb.1, hb.2⟩
theorem isDstL_spec {z t : Nat} : isDstL ops z t = true ↔ ∃ (j : Nat) (o : Oper), ops[j]? = some o ∧ j ≠ z ∧ o.dst = some t := by
  unfold isDstL
  rw [List.any_eq_true]
  constructor
  · rintro ⟨j, hj, h⟩
    simp only [Bool.and_eq_true, bne_iff_ne] at h
    obtain ⟨hne, h⟩ := h
    split at h
    · rename_i o ho; exact ⟨j, o, ho, hne, by simpa using h⟩
    · cases h
  · rintro ⟨j, o, ho, hne, hd⟩
    exact ⟨j, List.mem_range.2 (Array.getElem?_eq_some_iff.1 ho).1, by simp [hne, ho, hd]⟩
structure MidL (ops : Array Oper) (z : Nat) (F : Act) (listed : Array Bool) (b : Act) : Prop where
  size : listed.size = ops.size
  tsize : b.tmps.size = F.tmps.size
  dfs : b.defers = F.defers
  up : ∀ (j : Nat) o d, ops[j]? = some o → j ≠ z → listed.getD j false = true → o.dst = some d → b.tmps[d]? = F.tmps[d]?
  rest : ∀ t, isDstL ops z t = false → b.tmps[t]? = F.tmps[t]?
theorem MidL.look {z : Nat} {F b : Act} {listed : Array Bool} (h : MidL ops z F listed b) (hB : certL ops z = true) {i : Nat} {o : Oper} (hi : ops[i]? = some o) (hall : ∀ e ∈ o.after, Region.binds .any e = true → listed.getD e.on false = true) :
    ∀ d ∈ o.looksAt ops, b.tmps[d]? = F.tmps[d]? := by
  intro d hd
  cases hx : isDstL ops z d with
  | false => exact h.rest d hx
  | true =>
    obtain ⟨j, oj, hj, hjz, he⟩ := isDstL_spec.1 hx
    obtain ⟨e, he1, he2, he3⟩ := ((certL_spec hB).2 i o hi).2 d hd j oj hj hjz he
    exact h.up j oj d hj hjz (by rw [← he3]; exact hall e he1 he2) he
theorem MidL.exec {z : Nat} {F b : Act} {listed : Array Bool} (h : MidL ops z F listed b) (hB : certL ops z = true) {i : Nat} {o : Oper} (hi : ops[i]? = some o) (hall : ∀ e ∈ o.after, Region.binds .any e = true → listed.getD e.on false = true) :
    execOp b.eval o = execOp F.eval o ∧ Region.wanted o (yielded ops b.tmps) = Region.wanted o (yielded ops F.tmps) := by
  have hl := h.look hB hi hall
  refine ⟨execOp_congr o (fun cs c => Region.noSelect_spec (certL_spec hB).1 i o cs c hi) fun x hx => ?_, ?_⟩
  · cases x with
    | tmp t =>
      have := hl t (List.mem_append_left _ (List.mem_filterMap.2 ⟨.tmp t, by simpa using hx, rfl⟩))
      simp only [Act.eval, Array.getD_eq_getD_getElem?, this]
    | const v => rfl
    | global g => rfl
    | func f => rfl
  · unfold Region.wanted
    cases hg : o.guard with
    | none => rfl
    | some gw =>
      obtain ⟨g, want⟩ := gw
      have hy : yielded ops b.tmps g = yielded ops F.tmps g := by
        unfold yielded
        cases ht : (ops[g]?).bind (·.dst) with
        | none => rfl
        | some t =>
          have := hl t (by simp [Oper.looksAt, hg, ht])
          simp only [Option.bind_some, this]
      simp only [hy]
theorem MidL.next {z : Nat} {F b : Act} {listed : Array Bool} (h : MidL ops z F listed b) {i : Nat} {o : Oper} (hi : ops[i]? = some o) (hF : ∀ d, o.dst = some d → d < F.tmps.size) : MidL ops z F (listed.setIfInBounds i true) (b.put o.dst (slotV F o.dst)) := by
  have hput : ∀ t, o.dst = some t ∨ b.tmps[t]? = F.tmps[t]? → (b.put o.dst (slotV F o.dst)).tmps[t]? = F.tmps[t]? := by
    intro t ht
    cases hd : o.dst with
    | none =>
      rcases ht with ht | ht
      · rw [hd] at ht; cases ht
      · exact ht
    | some d =>
      simp only [Act.put, slotV]
      by_cases hdt : d = t
      · subst hdt
        have h1 := hF d hd
        rw [Array.getElem?_setIfInBounds_self_of_lt (by rw [h.tsize]; exact h1)]
        simp [h1]
      · rw [Array.getElem?_setIfInBounds_ne hdt]
        rcases ht with ht | ht
        · rw [hd] at ht; cases ht; exact absurd rfl hdt
        · exact ht
  refine ⟨by simp [h.size], ?_, ?_, ?_, ?_⟩
  · rw [← h.tsize]
    cases o.dst <;> simp [Act.put]
  · rw [← h.dfs]
    cases o.dst <;> simp [Act.put]
  · intro j oj d hj hjz hl hd
    by_cases hji : i = j
    · subst hji
      rw [hi] at hj
      cases hj
      exact hput d (.inl hd)
    · rw [getD_set_ne false hji] at hl
      exact hput d (.inr (h.up j oj d hj hjz hl hd))
  · intro t ht
    exact hput t (.inr (h.rest t ht))
theorem all_but {z : Nat} {listed : Array Bool} (hz : lastL ops z = true) (hcl : Closed ops listed) (hrd : ∀ j, waitsB ops z j = true → listed.getD j false = true) : ∀ j, j < ops.size → j ≠ z → listed.getD j false = true := by
  unfold lastL at hz
  rw [Bool.and_eq_true] at hz
  have key : ∀ n j, ops.size - j ≤ n → j < ops.size → j ≠ z → listed.getD j false = true := by
    intro n
    induction n with
    | zero => intro j h1 h2; omega
    | succ n ih =>
      intro j h1 h2 h3
      have h4 := List.all_eq_true.1 hz.2 j (List.mem_range.2 h2)
      have h5 : (j == z) = false := by simpa using h3
      rw [h5, Bool.false_or, List.any_eq_true] at h4
      obtain ⟨k, hk, h6⟩ := h4
      rw [Bool.and_eq_true, decide_eq_true_iff] at h6
      have hks := List.mem_range.1 hk
      by_cases hkz : k = z
      · subst hkz; exact hrd j h6.2
      · have hkl := ih k (by omega) hks hkz
        exact ready_waits (listed := listed) (i := k) (Array.getElem?_eq_getElem hks) (fun e he hb => hcl k _ (Array.getElem?_eq_getElem hks) hkl e he hb) j h6.2
  exact fun j => key (ops.size - j) j (Nat.le_refl _)

theorem wpAny_certL {z : Nat} {F : Act} {N : World → Prop} {Q : Exit → Act → World → Prop} {oz : Oper} {v : Value} (hB : certL ops z = true) (hz : lastL ops z = true) (hoz : ops[z]? = some oz) (hF : ∀ (i : Nat) o d, ops[i]? = some o → o.dst = some d → d < F.tmps.size)
    (hstep : ∀ i, i < ops.size → i ≠ z → ∀ w, N w → stepAt P ops F i N w) (hwz : Region.wanted oz (yielded ops F.tmps) = true) (hrz : ∀ w, N w → (execOp F.eval oz).run P w = .ok (.value v) w) (hend : ∀ w, N w → Q .normal (F.put oz.dst v) w) :
    ∀ (fuel : Nat) (listed : Array Bool) (b : Act) (w : World), listed.toList.count false = fuel + 1 → listed.getD z true = false → MidL ops z F listed b → Closed ops listed → N w → wpAny P .any ops Q (fuel + 1) listed b w := by
  have hzn : z < ops.size := (Array.getElem?_eq_some_iff.1 hoz).1
  intro fuel
  induction fuel with
  | zero =>
    intro listed b w hc hzl h hcl hw
    have hone : ∀ j, j < ops.size → j ≠ z → listed.getD j true = true := by
      intro j hj hjz
      cases hx : listed.getD j true with
      | true => rfl
      | false =>
        exfalso
        have hjl : j < listed.size := by rw [h.size]; exact hj
        have hzl' : z < listed.size := by rw [h.size]; exact hzn
        have e1 : listed.toList[j]'(by simpa using hjl) = false := by simpa [hjl] using hx
        have e2 : listed.toList[z]'(by simpa using hzl') = false := by simpa [hzl'] using hzl
        have h2 : (listed.toList.set j true).count false = 0 := by
          rw [List.count_set (by simpa using hjl)]
          simp [e1, hc]
        have h3 := List.count_eq_zero.1 h2
        apply h3
        rw [List.mem_iff_getElem]
        refine ⟨z, by simpa using hzl', ?_⟩
        rw [List.getElem_set_ne (by omega)]
        exact e2
    have honeF : ∀ j, j < ops.size → j ≠ z → listed.getD j false = true := by
      intro j hj hjz
      have hjl : j < listed.size := by rw [h.size]; exact hj
      have := hone j hj hjz
      simpa [hjl] using this
    have hallz : ∀ e ∈ oz.after, Region.binds .any e = true → listed.getD e.on false = true := by
      intro e he hb
      have hlt := ((certL_spec hB).2 z oz hoz).1 e he hb
      exact honeF e.on (by omega) (by omega)
    refine ⟨fun h0 => ?_, fun i hi => ?_⟩
    · exfalso
      have : z ∈ Region.ready .any ops listed := mem_ready.2 ⟨hzl, oz, hoz, hallz⟩
      rw [h0] at this
      cases this
    · obtain ⟨hun, o, ho, hall⟩ := mem_ready.1 hi
      have hiz : i = z := by
        apply Classical.byContradiction
        intro hne
        have := hone i (Array.getElem?_eq_some_iff.1 ho).1 hne
        rw [hun] at this
        cases this
      subst hiz
      rw [hoz] at ho
      cases ho
      have hbF : b = F := by
        obtain ⟨bt, bd⟩ := b
        obtain ⟨ft, fd⟩ := F
        have h1 := h.dfs
        simp only at h1
        subst h1
        congr 1
        apply Array.ext_getElem?
        intro t
        cases hx : isDstL ops i t with
        | false => exact h.rest t hx
        | true =>
          obtain ⟨j, oj, hj, hjz, he⟩ := isDstL_spec.1 hx
          exact h.up j oj t hj hjz (honeF j (Array.getElem?_eq_some_iff.1 hj).1 hjz) he
      subst hbF
      unfold wpOp
      simp only [hoz, hwz]
      refine .inl ?_
      unfold Oper.wp
      rw [hrz w hw, Oper.upon_value]
      refine ⟨?_, hend w hw⟩
      rw [List.eq_nil_iff_forall_not_mem]
      intro j hj
      obtain ⟨hunj, oj, hoj, _⟩ := mem_ready.1 hj
      have hjs := (Array.getElem?_eq_some_iff.1 hoj).1
      by_cases hji : i = j
      · subst hji
        have hil : i < listed.size := by rw [h.size]; exact hjs
        simp [hil] at hunj
      · rw [getD_set_ne true hji] at hunj
        have := hone j hjs (by omega)
        rw [hunj] at this
        cases this
  | succ fuel ih =>
    intro listed b w hc hzl h hcl hw
    refine ⟨fun h0 => ?_, fun i hi => ?_⟩
    · exfalso
      have hex : ∀ n, ∀ j, j < n → j < ops.size → listed.getD j true = false → ∃ i, i ∈ Region.ready .any ops listed := by
        intro n
        induction n with
        | zero => intro j hj; omega
        | succ n ihn =>
          intro j hj hjs hun
          by_cases hr : ∀ e ∈ (ops[j]'hjs).after, Region.binds .any e = true → listed.getD e.on false = true
          · exact ⟨j, mem_ready.2 ⟨hun, ops[j], Array.getElem?_eq_getElem hjs, hr⟩⟩
          · have : ∃ e, e ∈ (ops[j]'hjs).after ∧ Region.binds .any e = true ∧ ¬ listed.getD e.on false = true := by
              apply Classical.byContradiction
              intro hno
              apply hr
              intro e he hb
              apply Classical.byContradiction
              intro h3
              exact hno ⟨e, he, hb, h3⟩
            obtain ⟨e, he, hbe, hne⟩ := this
            have hlt := ((certL_spec hB).2 j _ (Array.getElem?_eq_getElem hjs)).1 e he hbe
            have hes : e.on < listed.size := by rw [h.size]; omega
            refine ihn e.on (by omega) (by omega) ?_
            simp [hes] at hne ⊢
            exact hne
      obtain ⟨i, hi⟩ := hex (z + 1) z (by omega) hzn hzl
      rw [h0] at hi
      cases hi
    · obtain ⟨hun, o, ho, hall⟩ := mem_ready.1 hi
      have hil : i < listed.size := by rw [h.size]; exact (Array.getElem?_eq_some_iff.1 ho).1
      have hcnt : (listed.setIfInBounds i true).toList.count false = fuel + 1 := by
        have h1 : listed[i]'hil = false := by simpa [hil] using hun
        rw [Array.toList_setIfInBounds, List.count_set (by simpa using hil)]
        simp [h1, hc]
      by_cases hiz : i = z
      · exfalso
        subst hiz
        have hab := all_but hz hcl (ready_waits ho hall)
        have hm : false ∈ (listed.setIfInBounds i true).toList := List.count_pos_iff.1 (by omega)
        obtain ⟨j, hj, he⟩ := List.mem_iff_getElem.1 hm
        have hjl : j < listed.size := by simpa using hj
        by_cases hji : i = j
        · subst hji
          simp at he
        · have h1 := hab j (by rw [← h.size]; exact hjl) (by omega)
          simp [hji] at he
          simp [hjl] at h1
          rw [h1] at he
          cases he
      · have hn := h.next ho (fun d hd => hF i o d ho hd)
        have hz2 : (listed.setIfInBounds i true).getD z true = false := by rw [getD_set_ne true hiz]; exact hzl
        obtain ⟨e1, e2⟩ := h.exec hB ho hall
        have hs := hstep i (Array.getElem?_eq_some_iff.1 ho).1 hiz w hw
        unfold stepAt at hs
        simp only [ho] at hs
        unfold wpOp
        simp only [ho, e2]
        split
        · rename_i hwt
          refine .inl ?_
          have h1 := hs.1 hwt
          unfold Oper.wp
          rw [e1]
          generalize (execOp F.eval o).run P w = r at h1
          cases r with
          | halt x w' => simp only [Gives] at h1
          | ok n w' =>
            cases n <;> simp only [Gives] at h1 <;> simp only [Oper.upon]
            case value u => obtain ⟨n1, rfl⟩ := h1; exact ih _ _ _ hcnt hz2 hn (hcl.set ho hall) n1
            case skip =>
              have h2 := ih _ _ _ hcnt hz2 hn (hcl.set ho hall) h1.1
              rw [h1.2] at h2
              exact h2
            case enter f args =>
              refine h1.mono fun e w'' ⟨he, hn2⟩ => ?_
              subst he
              exact ih _ _ _ hcnt hz2 hn (hcl.set ho hall) hn2
        · rename_i hwt
          have h1 := hs.2 (by simpa using hwt)
          have h2 := ih _ _ _ hcnt hz2 hn (hcl.set ho hall) h1.2
          rw [h1.1] at h2
          exact h2

/-- A region whose last operation writes what an earlier one has read; calls lay memory of their own. -/
theorem wp_cert_last {id : Nat} {a : Act} {W : World} {Q : Exit → Act → World → Prop} (l : List (Tmp × Value)) (n z dz : Nat) (v : Value) (hn : ops.size = n) (hm : P.follows .mixedOrders = true) (hB : certL ops z = true) (hz : lastL ops z = true)
    (hF : (ops.all fun o => match o.dst with | some d => decide (d < (putL a l).tmps.size) | none => true) = true) (ho : (l.map (·.1)).all (isDstL ops z) = true)
    (hstep : stepsFrom (fun i => i ≠ z → ∀ w, Below W.heap.size W w → stepAt P ops (putL a l) i (Below W.heap.size W) w) 0 n)
    (hlast : ∃ oz, ops[z]? = some oz ∧ oz.dst = some dz ∧ Region.wanted oz (yielded ops (putL a l).tmps) = true ∧ ∀ w, (execOp (putL a l).eval oz).run P w = .ok (.value v) w)
    (hend : ∀ w, Below W.heap.size W w → Q .normal ((putL a l).put (some dz) v) w) : (Code.region id ops true).wp P Q a W := by
  obtain ⟨oz, h1, h2, h3, h4⟩ := hlast
  have hzn : z < ops.size := (Array.getElem?_eq_some_iff.1 h1).1
  have hrep : ∀ j, (Array.replicate ops.size false).getD j false = false := by
    intro j
    rcases Nat.lt_or_ge j ops.size with h | h <;> simp [h]
  have hout : ∀ t, isDstL ops z t = false → a.tmps[t]? = (putL a l).tmps[t]? := by
    intro t ht
    have key : ∀ (l : List (Tmp × Value)) (a : Act), (l.map (·.1)).all (isDstL ops z) = true → a.tmps[t]? = (putL a l).tmps[t]? := by
      intro l
      induction l with
      | nil => intro a _; rfl
      | cons p l ih =>
        intro a hl
        simp only [List.map_cons, List.all_cons, Bool.and_eq_true] at hl
        rw [putL_cons, ← ih _ hl.2]
        exact (putTmp_other (by rintro rfl; rw [hl.1] at ht; cases ht)).symm
    exact key l a ho
  obtain ⟨k, hk⟩ : ∃ k, ops.size = k + 1 := ⟨ops.size - 1, by omega⟩
  have hmain := wpAny_certL (P := P) (ops := ops) (z := z) (F := putL a l) (N := Below W.heap.size W) (Q := Q) (v := v) hB hz h1 (by
      intro i o d hi hdst
      obtain ⟨hlt, hio⟩ := Array.getElem?_eq_some_iff.1 hi
      have h1 := Array.all_eq_true'.1 hF o (by rw [← hio]; exact Array.getElem_mem hlt)
      simpa [hdst] using h1)
    (fun i hi hiz w hw => stepsFrom_all n 0 hstep i (Nat.zero_le _) (by rw [hn] at hi; omega) hiz w hw) h3 (fun w _ => h4 w) (fun w hw => by rw [h2]; exact hend w hw) k (Array.replicate ops.size false) a W.drew (by simp [hk]) (by simp [hzn]) ⟨by simp, (putL_size l a).symm, (putL_defers l a).symm, (fun j o d _ _ hl _ => (by rw [hrep j] at hl; cases hl)), fun t ht => hout t ht⟩ (fun j o hj hl => (by rw [hrep j] at hl; cases hl)) (below_drewN (Below.refl _ W) 1)
  rw [← hk] at hmain
  exact wp_region_any hm hmain
end
end RC
end Go.Proofs.Ytjanmnjmnnnfmaa
