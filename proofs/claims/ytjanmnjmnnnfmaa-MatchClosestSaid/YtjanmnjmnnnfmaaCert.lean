/- A region that draws its order, by the frame in which it ends: whatever order is drawn, each operation finds what it looks at as it stands in the end, and leaves there what stands in the end. One operation may lay memory. Nothing of the program. -/
import Derived.WalkKit
import Derived.Deep.QuietTactic
namespace Go.Proofs.Ytjanmnjmnnnfmaa
namespace RC
open Go.RowKit
section
variable {P : Program} {ops : Array Oper}

/-- What an operation hands back: v, and a world that N takes. -/
def Gives (P : Program) (v : Value) (N : World → Prop) : Result Next → Prop
  | .ok (.value u) w' => N w' ∧ u = v
  | .ok .skip w' => N w' ∧ v = undef
  | .ok (.enter f args) w' => Calls P f args w' (fun e w'' => e = .returned v ∧ N w'')
  | _ => False
def slotV (F : Act) : Option Tmp → Value
  | none => undef
  | some d => F.tmps.getD d undef
def stepOf (P : Program) (ops : Array Oper) (F : Act) (o : Oper) (N : World → Prop) (w : World) : Prop :=
  (Region.wanted o (yielded ops F.tmps) = true → Gives P (slotV F o.dst) N ((execOp F.eval o).run P w)) ∧ (Region.wanted o (yielded ops F.tmps) = false → slotV F o.dst = undef ∧ N w)
def stepAt (P : Program) (ops : Array Oper) (F : Act) (i : Nat) (N : World → Prop) (w : World) : Prop :=
  match ops[i]? with
  | none => True
  | some o => stepOf P ops F o N w
/-- Every slot that an operation looks at, and that another one writes, is written by one that it waits for; and it waits for those ahead of it alone. -/
def certB (ops : Array Oper) : Bool :=
  Region.noSelect ops && (List.range ops.size).all fun i => match ops[i]? with
    | none => true
    | some o => (o.after.all fun e => !Region.binds .any e || decide (e.on < i)) && (o.looksAt ops).all fun d => (List.range ops.size).all fun j => match ops[j]? with
      | none => true
      | some oj => oj.dst != some d || o.after.any fun e => Region.binds .any e && e.on == j
def isDst (ops : Array Oper) (t : Nat) : Bool := ops.any fun o => o.dst == some t

theorem certB_spec (h : certB ops = true) : Region.noSelect ops = true ∧ ∀ (i : Nat) o, ops[i]? = some o → (∀ e ∈ o.after, Region.binds .any e = true → e.on < i) ∧
    ∀ d ∈ o.looksAt ops, ∀ (j : Nat) oj, ops[j]? = some oj → oj.dst = some d → ∃ e ∈ o.after, Region.binds .any e = true ∧ e.on = j := by
  simp only [certB, Bool.and_eq_true] at h
  refine ⟨h.1, fun i o hi => ?_⟩
  have h1 := List.all_eq_true.1 h.2 i (List.mem_range.2 (Array.getElem?_eq_some_iff.1 hi).1)
  simp only [hi, Bool.and_eq_true] at h1
  refine ⟨fun e he hb => by simpa [hb] using Array.all_eq_true'.1 h1.1 e he, fun d hd j oj hj hdst => ?_⟩
  have h2 := List.all_eq_true.1 (List.all_eq_true.1 h1.2 d hd) j (List.mem_range.2 (Array.getElem?_eq_some_iff.1 hj).1)
  simp only [hj, hdst, Bool.or_eq_true, bne_self_eq_false, Bool.false_eq_true, false_or] at h2
  obtain ⟨e, he, hb⟩ := Array.any_eq_true'.1 h2
  simp only [Bool.and_eq_true, beq_iff_eq] at hb
  exact ⟨e, he, hb.1, hb.2⟩

/-- Whoever has come up, all for which it waits have come up. -/
def Closed (ops : Array Oper) (listed : Array Bool) : Prop := ∀ (j : Nat) o, ops[j]? = some o → listed.getD j false = true → ∀ e ∈ o.after, Region.binds .any e = true → listed.getD e.on false = true
def waitsB (ops : Array Oper) (j i : Nat) : Bool :=
  match ops[j]? with
  | some o => o.after.any fun e => Region.binds .any e && e.on == i
  | none => false
theorem Closed.not {listed : Array Bool} (h : Closed ops listed) {i j : Nat} (hw : waitsB ops j i = true) (hi : listed.getD i false = false) : listed.getD j false = false := by
  unfold waitsB at hw
  split at hw
  · rename_i o ho
    obtain ⟨e, he, hb⟩ := Array.any_eq_true'.1 hw
    simp only [Bool.and_eq_true, beq_iff_eq] at hb
    cases hj : listed.getD j false with
    | false => rfl
    | true =>
      have := h j o ho hj e he hb.1
      rw [hb.2, hi] at this
      cases this
  · cases hw
theorem Closed.set {listed : Array Bool} (h : Closed ops listed) {i : Nat} {o : Oper} (hi : ops[i]? = some o) (hall : ∀ e ∈ o.after, Region.binds .any e = true → listed.getD e.on false = true) : Closed ops (listed.setIfInBounds i true) := by
  intro j oj hj hl e he hb
  by_cases hij : i = j
  · subst hij
    rw [hi] at hj
    cases hj
    exact getD_set_true (hall e he hb)
  · rw [getD_set_ne false hij] at hl
    exact getD_set_true (h j oj hj hl e he hb)

/-- How a frame on the way stands to the last one. -/
structure Mid (ops : Array Oper) (a F : Act) (listed : Array Bool) (b : Act) : Prop where
  size : listed.size = ops.size
  tsize : b.tmps.size = F.tmps.size
  dfs : b.defers = F.defers
  up : ∀ (j : Nat) o d, ops[j]? = some o → listed.getD j false = true → o.dst = some d → b.tmps[d]? = F.tmps[d]?
  rest : ∀ t, isDst ops t = false → b.tmps[t]? = F.tmps[t]?

theorem isDst_of {j d : Nat} {o : Oper} (hj : ops[j]? = some o) (hd : o.dst = some d) : isDst ops d = true := by
  unfold isDst
  obtain ⟨hlt, he⟩ := Array.getElem?_eq_some_iff.1 hj
  exact Array.any_eq_true'.2 ⟨o, by rw [← he]; exact Array.getElem_mem hlt, by rw [hd]; simp⟩
theorem Mid.look {a F b : Act} {listed : Array Bool} (h : Mid ops a F listed b) (hB : certB ops = true) {i : Nat} {o : Oper} (hi : ops[i]? = some o) (hall : ∀ e ∈ o.after, Region.binds .any e = true → listed.getD e.on false = true) :
    ∀ d ∈ o.looksAt ops, b.tmps[d]? = F.tmps[d]? := by
  intro d hd
  cases hx : isDst ops d with
  | false => exact h.rest d hx
  | true =>
    unfold isDst at hx
    obtain ⟨oj, hm, he⟩ := Array.any_eq_true'.1 hx
    obtain ⟨j, hj⟩ := Array.getElem?_of_mem hm
    obtain ⟨e, he1, he2, he3⟩ := ((certB_spec hB).2 i o hi).2 d hd j oj hj (by simpa using he)
    exact h.up j oj d hj (by rw [← he3]; exact hall e he1 he2) (by simpa using he)
theorem Mid.exec {a F b : Act} {listed : Array Bool} (h : Mid ops a F listed b) (hB : certB ops = true) {i : Nat} {o : Oper} (hi : ops[i]? = some o) (hall : ∀ e ∈ o.after, Region.binds .any e = true → listed.getD e.on false = true) :
    execOp b.eval o = execOp F.eval o ∧ Region.wanted o (yielded ops b.tmps) = Region.wanted o (yielded ops F.tmps) := by
  have hl := h.look hB hi hall
  refine ⟨execOp_congr o (fun cs c => Region.noSelect_spec (certB_spec hB).1 i o cs c hi) fun x hx => ?_, ?_⟩
  · cases x with
    | tmp t =>
      have := hl t (List.mem_append_left _ (List.mem_filterMap.2 ⟨.tmp t, by simpa using hx, rfl⟩))
      simp only [Act.eval, Array.getD_eq_getD_getElem?, this]
    | const v => rfl
    | global g => rfl
    | func f => rfl
  · unfold Region.wanted
    cases hg : o.guard with
    | none => rfl
    | some gw =>
      obtain ⟨g, want⟩ := gw
      have hy : yielded ops b.tmps g = yielded ops F.tmps g := by
        unfold yielded
        cases ht : (ops[g]?).bind (·.dst) with
        | none => rfl
        | some t =>
          have := hl t (by simp [Oper.looksAt, hg, ht])
          simp only [Option.bind_some, this]
      simp only [hy]
theorem Mid.next {a F b : Act} {listed : Array Bool} (h : Mid ops a F listed b) {i : Nat} {o : Oper} (hi : ops[i]? = some o) (hF : ∀ d, o.dst = some d → d < F.tmps.size) : Mid ops a F (listed.setIfInBounds i true) (b.put o.dst (slotV F o.dst)) := by
  have hput : ∀ t, o.dst = some t ∨ b.tmps[t]? = F.tmps[t]? → (b.put o.dst (slotV F o.dst)).tmps[t]? = F.tmps[t]? := by
    intro t ht
    cases hd : o.dst with
    | none =>
      rcases ht with ht | ht
      · rw [hd] at ht; cases ht
      · exact ht
    | some d =>
      simp only [Act.put, slotV]
      by_cases hdt : d = t
      · subst hdt
        have h1 := hF d hd
        rw [Array.getElem?_setIfInBounds_self_of_lt (by rw [h.tsize]; exact h1)]
        simp [h1]
      · rw [Array.getElem?_setIfInBounds_ne hdt]
        rcases ht with ht | ht
        · rw [hd] at ht; cases ht; exact absurd rfl hdt
        · exact ht
  refine ⟨by simp [h.size], ?_, ?_, ?_, ?_⟩
  · rw [← h.tsize]
    cases o.dst <;> simp [Act.put]
  · rw [← h.dfs]
    cases o.dst <;> simp [Act.put]
  · intro j oj d hj hl hd
    by_cases hji : i = j
    · subst hji
      rw [hi] at hj
      cases hj
      exact hput d (.inl hd)
    · rw [getD_set_ne false hji] at hl
      exact hput d (.inr (h.up j oj d hj hl hd))
  · intro t ht
    exact hput t (.inr (h.rest t ht))

/-- What one operation comes to on the way. -/
theorem wpOp_of_step {a F b : Act} {listed : Array Bool} {w : World} {N : World → Prop} {K : Act → World → Prop} {Q : Exit → Act → World → Prop} {i : Nat} {o : Oper} (hB : certB ops = true) (h : Mid ops a F listed b) (hi : ops[i]? = some o)
    (hall : ∀ e ∈ o.after, Region.binds .any e = true → listed.getD e.on false = true) (hs : stepAt P ops F i N w) (hK : ∀ w', N w' → K (b.put o.dst (slotV F o.dst)) w') : wpOp P ops Q i K b w := by
  obtain ⟨e1, e2⟩ := h.exec hB hi hall
  unfold stepAt at hs
  simp only [hi] at hs
  unfold wpOp
  simp only [hi, e2]
  split
  · rename_i hw
    refine .inl ?_
    have h1 := hs.1 hw
    unfold Oper.wp
    rw [e1]
    generalize (execOp F.eval o).run P w = r at h1
    cases r with
    | halt x w' => simp only [Gives] at h1
    | ok n w' =>
      cases n <;> simp only [Gives] at h1 <;> simp only [Oper.upon]
      case value u => obtain ⟨n1, rfl⟩ := h1; exact hK _ n1
      case skip => rw [← h1.2]; exact hK _ h1.1
      case enter f args =>
        refine h1.mono fun e w'' ⟨he, hn⟩ => ?_
        subst he
        exact hK _ hn
  · rename_i hw
    have h1 := hs.2 (by simpa using hw)
    rw [← h1.1]
    exact hK _ h1.2

theorem ready_waits {listed : Array Bool} {i : Nat} {o : Oper} (hi : ops[i]? = some o) (hall : ∀ e ∈ o.after, Region.binds .any e = true → listed.getD e.on false = true) : ∀ j, waitsB ops i j = true → listed.getD j false = true := by
  intro j hw
  unfold waitsB at hw
  rw [hi] at hw
  obtain ⟨e, he, hb⟩ := Array.any_eq_true'.1 hw
  simp only [Bool.and_eq_true, beq_iff_eq] at hb
  rw [← hb.2]
  exact hall e he hb.1
theorem count_zero {l : List Bool} (h : l.count false = 0) : ∀ b ∈ l, b = true := by
  intro b hb
  cases b with
  | true => rfl
  | false => exact absurd h (by have := List.count_pos_iff.2 hb; omega)

theorem wpAny_cert {a F : Act} {C : Array Bool → World → Prop} {Q : Exit → Act → World → Prop} (hB : certB ops = true) (hF : ∀ (i : Nat) o d, ops[i]? = some o → o.dst = some d → d < F.tmps.size)
    (hstep : ∀ i, i < ops.size → ∀ listed w, listed.size = ops.size → Closed ops listed → (∀ j, waitsB ops i j = true → listed.getD j false = true) → listed.getD i true = false → C listed w → stepAt P ops F i (C (listed.setIfInBounds i true)) w) (hend : ∀ listed w, (∀ j, j < ops.size → listed.getD j false = true) → C listed w → Q .normal F w) :
    ∀ (fuel : Nat) (listed : Array Bool) (b : Act) (w : World), listed.toList.count false = fuel → Mid ops a F listed b → Closed ops listed → C listed w → wpAny P .any ops Q fuel listed b w := by
  have hdone : ∀ (listed : Array Bool) (b : Act) (w : World), listed.toList.count false = 0 → Mid ops a F listed b → C listed w → Q .normal b w := by
    intro listed b w hc h hw
    have hall : ∀ j, j < ops.size → listed.getD j false = true := by
      intro j hj
      have hjl : j < listed.size := by rw [h.size]; exact hj
      have := count_zero hc (listed[j]'hjl) (by simp)
      simp [hjl, this]
    have hbF : b = F := by
      obtain ⟨bt, bd⟩ := b
      obtain ⟨ft, fd⟩ := F
      have h1 := h.dfs
      simp only at h1
      subst h1
      congr 1
      apply Array.ext_getElem?
      intro t
      cases hx : isDst ops t with
      | false => exact h.rest t hx
      | true =>
        unfold isDst at hx
        obtain ⟨oj, hm, he⟩ := Array.any_eq_true'.1 hx
        obtain ⟨j, hj⟩ := Array.getElem?_of_mem hm
        exact h.up j oj t hj (hall j (Array.getElem?_eq_some_iff.1 hj).1) (by simpa using he)
    rw [hbF]
    exact hend listed w hall hw
  intro fuel
  induction fuel with
  | zero =>
    intro listed b w hc h _ hw
    refine ⟨?_, hdone listed b w hc h hw⟩
    rw [List.eq_nil_iff_forall_not_mem]
    intro j hj
    obtain ⟨hun, o, ho, _⟩ := mem_ready.1 hj
    have hjl : j < listed.size := by rw [h.size]; exact (Array.getElem?_eq_some_iff.1 ho).1
    have := count_zero hc (listed[j]'hjl) (by simp)
    simp [hjl, this] at hun
  | succ fuel ih =>
    intro listed b w hc h hcl hw
    refine ⟨fun h0 => ?_, fun i hi => ?_⟩
    · exfalso
      -- the first that has not come up is ready
      have hex : ∀ n, ∀ j, j < n → j < ops.size → listed.getD j true = false → ∃ i, i ∈ Region.ready .any ops listed := by
        intro n
        induction n with
        | zero => intro j hj; omega
        | succ n ihn =>
          intro j hj hjs hun
          by_cases hr : ∀ e ∈ (ops[j]'hjs).after, Region.binds .any e = true → listed.getD e.on false = true
          · exact ⟨j, mem_ready.2 ⟨hun, ops[j], Array.getElem?_eq_getElem hjs, hr⟩⟩
          · have : ∃ e, e ∈ (ops[j]'hjs).after ∧ Region.binds .any e = true ∧ ¬ listed.getD e.on false = true := by
              apply Classical.byContradiction
              intro hno
              apply hr
              intro e he hb
              apply Classical.byContradiction
              intro h3
              exact hno ⟨e, he, hb, h3⟩
            obtain ⟨e, he, hbe, hne⟩ := this
            have hlt := ((certB_spec hB).2 j _ (Array.getElem?_eq_getElem hjs)).1 e he hbe
            have hes : e.on < listed.size := by rw [h.size]; omega
            refine ihn e.on (by omega) (by omega) ?_
            simp [hes] at hne ⊢
            exact hne
      have hpos : ∃ j, j < ops.size ∧ listed.getD j true = false := by
        have hm : false ∈ listed.toList := List.count_pos_iff.1 (by omega)
        obtain ⟨j, hj, he⟩ := List.mem_iff_getElem.1 hm
        have hjl : j < listed.size := by simpa using hj
        refine ⟨j, by rw [← h.size]; exact hjl, ?_⟩
        simp [hjl]
        simpa using he
      obtain ⟨j, hj, hun⟩ := hpos
      obtain ⟨i, hi⟩ := hex (j + 1) j (by omega) hj hun
      rw [h0] at hi
      cases hi
    · obtain ⟨hun, o, ho, hall⟩ := mem_ready.1 hi
      have hil : i < listed.size := by rw [h.size]; exact (Array.getElem?_eq_some_iff.1 ho).1
      have hcnt : (listed.setIfInBounds i true).toList.count false = fuel := by
        have h1 : listed[i]'hil = false := by simpa [hil] using hun
        rw [Array.toList_setIfInBounds, List.count_set (by simpa using hil)]
        simp [h1, hc]
      have hn := h.next ho (fun d hd => hF i o d ho hd)
      exact wpOp_of_step hB h ho hall (hstep i (by rw [← h.size]; exact hil) listed w h.size hcl (ready_waits ho hall) hun hw) fun w' hw' => ih _ _ _ hcnt hn (hcl.set ho hall) hw'

/-- The region, in general. -/
theorem wp_certG {id : Nat} {ops' : Array Oper} {a F : Act} {w : World} {C : Array Bool → World → Prop} {Q : Exit → Act → World → Prop} (he : ops' = ops) (hm : P.follows .mixedOrders = true) (hB : certB ops = true)
    (hF : (ops.all fun o => match o.dst with | some d => decide (d < F.tmps.size) | none => true) = true) (hs : a.tmps.size = F.tmps.size) (hd : a.defers = F.defers)
    (ho : ∀ t, isDst ops t = false → a.tmps[t]? = F.tmps[t]?) (h0 : ∀ listed, (∀ j, listed.getD j false = false) → C listed w.drew)
    (hstep : ∀ i, i < ops.size → ∀ listed w, listed.size = ops.size → Closed ops listed → (∀ j, waitsB ops i j = true → listed.getD j false = true) → listed.getD i true = false → C listed w → stepAt P ops F i (C (listed.setIfInBounds i true)) w) (hend : ∀ listed w, (∀ j, j < ops.size → listed.getD j false = true) → C listed w → Q .normal F w) : (Code.region id ops' true).wp P Q a w := by
  subst he
  have hrep : ∀ j, (Array.replicate ops'.size false).getD j false = false := by
    intro j
    rcases Nat.lt_or_ge j ops'.size with h | h <;> simp [h]
  refine wp_region_any hm (wpAny_cert (a := a) (C := C) hB ?_ hstep hend _ _ _ _ ?_ ⟨by simp, hs, hd, ?_, ho⟩ ?_ (h0 _ hrep))
  · intro i o d hi hdst
    obtain ⟨hlt, hio⟩ := Array.getElem?_eq_some_iff.1 hi
    have h1 := Array.all_eq_true'.1 hF o (by rw [← hio]; exact Array.getElem_mem hlt)
    simpa [hdst] using h1
  · simp
  · intro j o d _ hl
    rw [hrep] at hl
    cases hl
  · intro j o _ hl
    rw [hrep] at hl
    cases hl
/-- .. where one operation acts. -/
theorem wp_cert {id : Nat} {ops' : Array Oper} {a F : Act} {w : World} {C : Bool → World → Prop} {Q : Exit → Act → World → Prop} (p : Nat) (he : ops' = ops) (hm : P.follows .mixedOrders = true) (hB : certB ops = true) (hp : p < ops.size)
    (hF : (ops.all fun o => match o.dst with | some d => decide (d < F.tmps.size) | none => true) = true) (hs : a.tmps.size = F.tmps.size) (hd : a.defers = F.defers)
    (ho : ∀ t, isDst ops t = false → a.tmps[t]? = F.tmps[t]?) (h0 : C false w.drew)
    (hstep : ∀ i, i < ops.size → i ≠ p → ∀ b w, C b w → stepAt P ops F i (C b) w) (hpstep : ∀ w, C false w → stepAt P ops F p (C true) w) (hend : ∀ w, C true w → Q .normal F w) : (Code.region id ops' true).wp P Q a w := by
  refine wp_certG (C := fun l => C (l.getD p false)) he hm hB hF hs hd ho (fun l hl => by rw [hl]; exact h0) ?_ (fun l w hl hw => hend w (by rw [hl p hp] at hw; exact hw))
  intro i hi l w hsz _ _ hun hw
  by_cases hip : i = p
  · subst hip
    have h1 : l.getD i false = false := by simp [hsz, hi] at hun ⊢; exact hun
    rw [h1] at hw
    rw [show (l.setIfInBounds i true).getD i false = true by simp [hsz, hi]]
    exact hpstep w hw
  · rw [getD_set_ne false hip]
    exact hstep i hi hip _ w hw
/-- .. where two operations act, one behind the other. -/
theorem wp_cert2 {id : Nat} {ops' : Array Oper} {a F : Act} {w : World} {C : Bool → Bool → World → Prop} {Q : Exit → Act → World → Prop} (p q : Nat) (he : ops' = ops) (hm : P.follows .mixedOrders = true) (hB : certB ops = true) (hp : p < ops.size) (hq : q < ops.size) (hpq : p ≠ q) (hqp : waitsB ops q p = true)
    (hF : (ops.all fun o => match o.dst with | some d => decide (d < F.tmps.size) | none => true) = true) (hs : a.tmps.size = F.tmps.size) (hd : a.defers = F.defers)
    (ho : ∀ t, isDst ops t = false → a.tmps[t]? = F.tmps[t]?) (h0 : C false false w.drew)
    (hstep : ∀ i, i < ops.size → i ≠ p → i ≠ q → ∀ b c w, (waitsB ops p i = true → b = false) → (waitsB ops q i = true → c = false) → C b c w → stepAt P ops F i (C b c) w) (hpstep : ∀ w, C false false w → stepAt P ops F p (C true false) w) (hqstep : ∀ w, C true false w → stepAt P ops F q (C true true) w)
    (hend : ∀ w, C true true w → Q .normal F w) : (Code.region id ops' true).wp P Q a w := by
  refine wp_certG (C := fun l => C (l.getD p false) (l.getD q false)) he hm hB hF hs hd ho (fun l hl => by rw [hl, hl]; exact h0) ?_ (fun l w hl hw => hend w (by rw [hl p hp, hl q hq] at hw; exact hw))
  intro i hi l w hsz hcl hrd hun hw
  have h1 : l.getD i false = false := by simp [hsz, hi] at hun ⊢; exact hun
  by_cases hip : i = p
  · subst hip
    have h2 := hcl.not hqp h1
    simp only [h1, h2] at hw
    rw [show (l.setIfInBounds i true).getD i false = true by simp [hsz, hi], getD_set_ne false hpq, h2]
    exact hpstep w hw
  · by_cases hiq : i = q
    · subst hiq
      have h2 := hrd p hqp
      simp only [h1, h2] at hw
      rw [show (l.setIfInBounds i true).getD i false = true by simp [hsz, hi], getD_set_ne false hip, h2]
      exact hqstep w hw
    · rw [getD_set_ne false hip, getD_set_ne false hiq]
      exact hstep i hi hip hiq _ _ w (fun h => hcl.not h h1) (fun h => hcl.not h h1) hw

/-- Slots filled one behind the other. -/
def putL (a : Act) (l : List (Tmp × Value)) : Act := l.foldl (fun a p => a.put (some p.1) p.2) a
theorem putL_size : ∀ (l : List (Tmp × Value)) (a : Act), (putL a l).tmps.size = a.tmps.size
  | [], _ => rfl
  | p :: l, a => by
    show (putL (a.put (some p.1) p.2) l).tmps.size = _
    rw [putL_size l]
    simp [Act.put]
theorem putL_defers : ∀ (l : List (Tmp × Value)) (a : Act), (putL a l).defers = a.defers
  | [], _ => rfl
  | p :: l, a => by
    show (putL (a.put (some p.1) p.2) l).defers = _
    rw [putL_defers l]
    simp [Act.put]
theorem putL_other : ∀ (l : List (Tmp × Value)) (a : Act) (t : Nat), (∀ p ∈ l, p.1 ≠ t) → (putL a l).tmps[t]? = a.tmps[t]?
  | [], _, _, _ => rfl
  | p :: l, a, t, h => by
    show (putL (a.put (some p.1) p.2) l).tmps[t]? = _
    rw [putL_other l _ t (fun q hq => h q (by simp [hq]))]
    simp only [Act.put]
    exact Array.getElem?_setIfInBounds_ne (h p (by simp))
theorem putL_out {a : Act} {l : List (Tmp × Value)} (h : (l.map (·.1)).all (isDst ops) = true) : ∀ t, isDst ops t = false → a.tmps[t]? = (putL a l).tmps[t]? := by
  intro t ht
  refine (putL_other l a t fun p hp => ?_).symm
  intro e
  have := List.all_eq_true.1 h p.1 (List.mem_map.2 ⟨p, hp, rfl⟩)
  rw [e, ht] at this
  cases this

/-- All steps, one behind the other. -/
def stepsFrom (φ : Nat → Prop) : Nat → Nat → Prop
  | _, 0 => True
  | k, n + 1 => φ k ∧ stepsFrom φ (k + 1) n
theorem stepsFrom_all {φ : Nat → Prop} : ∀ (n k : Nat), stepsFrom φ k n → ∀ i, k ≤ i → i < k + n → φ i
  | 0, k, _, i, h1, h2 => by omega
  | n + 1, k, h, i, h1, h2 => by
    by_cases e : i = k
    · subst e; exact h.1
    · exact stepsFrom_all n (k + 1) h.2 i (by omega) (by omega)

/-- An operation that looks at no memory. -/
theorem step_pure {F : Act} {C : Bool → World → Prop} (i : Nat) {v : Value} {o : Oper} (ho : ops[i]? = some o) (hg : Region.wanted o (yielded ops F.tmps) = true) (hv : slotV F o.dst = v) (h : ∀ w, (execOp F.eval o).run P w = .ok (.value v) w) : ∀ b w, C b w → stepAt P ops F i (C b) w := by
  intro b w hw
  unfold stepAt
  rw [ho]
  refine ⟨fun _ => ?_, fun h2 => by rw [hg] at h2; cases h2⟩
  rw [h w, hv]
  exact ⟨hw, rfl⟩
/-- An operation that is carried out if c holds. -/
theorem step_if {F : Act} {C : Bool → World → Prop} (i : Nat) {o : Oper} (ho : ops[i]? = some o) (c : Bool) (hg : Region.wanted o (yielded ops F.tmps) = c) (hv : c = false → slotV F o.dst = undef)
    (h : c = true → ∀ b w, C b w → Gives P (slotV F o.dst) (C b) ((execOp F.eval o).run P w)) : ∀ b w, C b w → stepAt P ops F i (C b) w := by
  intro b w hw
  unfold stepAt
  rw [ho]
  refine ⟨fun h1 => h (by rw [← hg]; exact h1) b w hw, fun h2 => ⟨hv (by rw [← hg]; exact h2), hw⟩⟩
/-- A load of a cell that is known in every world of the class. -/
theorem step_load {F : Act} {C : Bool → World → Prop} (i : Nat) {t : TypeId} {ad : Addr} {v : Value} {o : Oper} (ho : ops[i]? = some o) (hg : Region.wanted o (yielded ops F.tmps) = true) (hv : slotV F o.dst = v)
    (he : execOp F.eval o = (do pure (.value (← Instr.loadAt t (.pointer (some ad)))))) (hl : ∀ b w, C b w → (Instr.loadAt t (.pointer (some ad))).run P w = .ok v w) : ∀ b w, C b w → stepAt P ops F i (C b) w := by
  intro b w hw
  unfold stepAt
  rw [ho]
  refine ⟨fun _ => ?_, fun h2 => by rw [hg] at h2; cases h2⟩
  rw [he, hv]
  simp only [Sem.run_bind, hl b w hw, Result.andThen_ok, Sem.run_pure]
  exact ⟨hw, rfl⟩
theorem gives_load {C : World → Prop} {t : TypeId} {ad : Addr} {v u : Value} {w : World} {s : Sem Next} (hv : v = u) (he : s = (do pure (.value (← Instr.loadAt t (.pointer (some ad)))))) (hl : (Instr.loadAt t (.pointer (some ad))).run P w = .ok u w) (hw : C w) : Gives P v C (s.run P w) := by
  rw [he, hv]
  simp only [Sem.run_bind, hl, Result.andThen_ok, Sem.run_pure]
  exact ⟨hw, rfl⟩
theorem gives_pure {C : World → Prop} {v u : Value} {w : World} {r : Result Next} (hv : v = u) (hr : r = .ok (.value u) w) (hw : C w) : Gives P v C r := by
  rw [hr, hv]
  exact ⟨hw, rfl⟩
/-- The same, all steps told one behind the other. -/
theorem wp_cert_l {id : Nat} {ops' : Array Oper} {a : Act} {w : World} {C : Bool → World → Prop} {Q : Exit → Act → World → Prop} (l : List (Tmp × Value)) (p n : Nat) (hn : ops'.size = n) (hm : P.follows .mixedOrders = true) (hB : certB ops' = true) (hp : p < n)
    (hF : (ops'.all fun o => match o.dst with | some d => decide (d < (putL a l).tmps.size) | none => true) = true) (ho : (l.map (·.1)).all (isDst ops') = true) (h0 : C false w.drew)
    (hstep : stepsFrom (fun i => i ≠ p → ∀ b w, C b w → stepAt P ops' (putL a l) i (C b) w) 0 n) (hpstep : ∀ w, C false w → stepAt P ops' (putL a l) p (C true) w) (hend : ∀ w, C true w → Q .normal (putL a l) w) : (Code.region id ops' true).wp P Q a w :=
  wp_cert (F := putL a l) p rfl hm hB (by rw [hn]; exact hp) hF (putL_size l a).symm (putL_defers l a).symm (putL_out ho) h0 (fun i hi hne => stepsFrom_all n 0 hstep i (Nat.zero_le _) (by rw [hn] at hi; omega) hne) hpstep hend
theorem wp_cert2_l {id : Nat} {ops' : Array Oper} {a : Act} {w : World} {C : Bool → Bool → World → Prop} {Q : Exit → Act → World → Prop} (l : List (Tmp × Value)) (p q n : Nat) (hn : ops'.size = n) (hm : P.follows .mixedOrders = true) (hB : certB ops' = true) (hp : p < n) (hq : q < n) (hpq : p ≠ q) (hqp : waitsB ops' q p = true)
    (hF : (ops'.all fun o => match o.dst with | some d => decide (d < (putL a l).tmps.size) | none => true) = true) (ho : (l.map (·.1)).all (isDst ops') = true) (h0 : C false false w.drew)
    (hstep : stepsFrom (fun i => i ≠ p → i ≠ q → ∀ b c w, (waitsB ops' p i = true → b = false) → (waitsB ops' q i = true → c = false) → C b c w → stepAt P ops' (putL a l) i (C b c) w) 0 n)
    (hpstep : ∀ w, C false false w → stepAt P ops' (putL a l) p (C true false) w) (hqstep : ∀ w, C true false w → stepAt P ops' (putL a l) q (C true true) w) (hend : ∀ w, C true true w → Q .normal (putL a l) w) : (Code.region id ops' true).wp P Q a w :=
  wp_cert2 (F := putL a l) p q rfl hm hB (by rw [hn]; exact hp) (by rw [hn]; exact hq) hpq hqp hF (putL_size l a).symm (putL_defers l a).symm (putL_out ho) h0 (fun i hi h1 h2 => stepsFrom_all n 0 hstep i (Nat.zero_le _) (by rw [hn] at hi; omega) h1 h2) hpstep hqstep hend
theorem at_pure {F : Act} {N : World → Prop} {i : Nat} {o : Oper} {w : World} (hw : N w) (ho : ops[i]? = some o) (hg : Region.wanted o (yielded ops F.tmps) = true) (h : (execOp F.eval o).run P w = .ok (.value (slotV F o.dst)) w) : stepAt P ops F i N w := by
  unfold stepAt
  rw [ho]
  refine ⟨fun _ => ?_, fun h2 => by rw [hg] at h2; cases h2⟩
  rw [h]
  exact ⟨hw, rfl⟩
theorem at_load {F : Act} {N : World → Prop} {i : Nat} {o : Oper} {w : World} {t : TypeId} {ad : Addr} {v : Value} (hw : N w) (ho : ops[i]? = some o) (hg : Region.wanted o (yielded ops F.tmps) = true) (hv : slotV F o.dst = v)
    (he : execOp F.eval o = (do pure (.value (← Instr.loadAt t (.pointer (some ad)))))) (hl : (Instr.loadAt t (.pointer (some ad))).run P w = .ok v w) : stepAt P ops F i N w := by
  unfold stepAt
  rw [ho]
  refine ⟨fun _ => ?_, fun h2 => by rw [hg] at h2; cases h2⟩
  rw [he, hv]
  simp only [Sem.run_bind, hl, Result.andThen_ok, Sem.run_pure]
  exact ⟨hw, rfl⟩
theorem at_store {F : Act} {N : World → Prop} {i : Nat} {o : Oper} {w w' : World} {t : TypeId} {ad : Addr} {v : Value} (hw : N w') (ho : ops[i]? = some o) (hg : Region.wanted o (yielded ops F.tmps) = true) (hv : slotV F o.dst = undef)
    (he : execOp F.eval o = (do Instr.storeAt t (.pointer (some ad)) v; pure .skip)) (hl : (Instr.storeAt t (.pointer (some ad)) v).run P w = .ok () w') : stepAt P ops F i N w := by
  unfold stepAt
  rw [ho]
  refine ⟨fun _ => ?_, fun h2 => by rw [hg] at h2; cases h2⟩
  rw [he]
  simp only [Sem.run_bind, hl, Result.andThen_ok, Sem.run_pure]
  exact ⟨hw, hv⟩
theorem at_call {F : Act} {N : World → Prop} {i : Nat} {o : Oper} {w : World} {f : FuncId} {args : Array Value} {v : Value} (ho : ops[i]? = some o) (hg : Region.wanted o (yielded ops F.tmps) = true) (hv : slotV F o.dst = v)
    (h : (execOp F.eval o).run P w = .ok (.enter f args) w) (hc : Calls P f args w fun r w' => r = .returned v ∧ N w') : stepAt P ops F i N w := by
  unfold stepAt
  rw [ho]
  refine ⟨fun _ => ?_, fun h2 => by rw [hg] at h2; cases h2⟩
  rw [h, hv]
  exact hc
theorem at_sem {F : Act} {N : World → Prop} {i : Nat} {o : Oper} {w : World} {sv : Sem Value} {v : Value} (hw : N w) (ho : ops[i]? = some o) (hg : Region.wanted o (yielded ops F.tmps) = true) (hv : slotV F o.dst = v)
    (he : execOp F.eval o = (do pure (.value (← sv)))) (hl : sv.run P w = .ok v w) : stepAt P ops F i N w := by
  unfold stepAt
  rw [ho]
  refine ⟨fun _ => ?_, fun h2 => by rw [hg] at h2; cases h2⟩
  rw [he, hv]
  simp only [Sem.run_bind, hl, Result.andThen_ok, Sem.run_pure]
  exact ⟨hw, rfl⟩
theorem putL_cons (a : Act) (p : Tmp × Value) (l : List (Tmp × Value)) : putL a (p :: l) = putL (a.put (some p.1) p.2) l := rfl
theorem putL_nil (a : Act) : putL a [] = a := rfl
/-- A call of a function value. -/
theorem exec_fn {ρ : Operand → Value} {o : Oper} {x : Operand} {args : Array Operand} {ts : Array TypeId} {f : Nat} {lb : Array Value} {w : World} (ho : o.op = .call { callee := .value x, args := args, argTypes := ts }) (hx : ρ x = .func (.func f) #[] lb) {vs : Array Value} (ha : args.map ρ = vs)
    (eg : ∀ args w, (callFunc f args).run P w = .ok (.enter f args) w) : (execOp ρ o).run P w = (.ok (.enter f (vs ++ lb)) w) := by
  subst ha
  unfold execOp
  simp only [ho, resolve, hx]
  simp [invoke, Deferred.ofValue, eg]
end
end RC
end Go.Proofs.Ytjanmnjmnnnfmaa
