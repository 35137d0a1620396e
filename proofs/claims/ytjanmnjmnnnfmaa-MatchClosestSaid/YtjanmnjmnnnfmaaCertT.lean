/- A region that draws its order, some of whose values are known only when they come. Nothing of the program. -/
import Derived.Test.YtjanmnjmnnnfmaaCert
import Derived.WalkSmall
namespace Go.Proofs.Ytjanmnjmnnnfmaa
namespace RC
section
variable {P : Program} {ops : Array Oper} {Θ : Type} {mk : Θ → Act}

/-- The frames of two guesses agree on all that has come up. -/
def Agree (ops : Array Oper) (mk : Θ → Act) (listed : Array Bool) (θ θ' : Θ) : Prop := ∀ (j : Nat) o d, ops[j]? = some o → listed.getD j false = true → o.dst = some d → (mk θ').tmps[d]? = (mk θ).tmps[d]?
theorem Agree.refl (listed : Array Bool) (θ : Θ) : Agree ops mk listed θ θ := fun _ _ _ _ _ _ => rfl
/-- What an operation comes to: a guess that agrees, and holds on. -/
def Next_ (mk : Θ → Act) (ops : Array Oper) (listed : Array Bool) (θ : Θ) (dst : Option Tmp) (G : Θ → World → Prop) (u : Value) (w : World) : Prop := ∃ θ', Agree ops mk listed θ θ' ∧ slotV (mk θ') dst = u ∧ G θ' w
def GivesT (P : Program) (N : Value → World → Prop) : Result Next → Prop
  | .ok (.value u) w' => N u w'
  | .ok .skip w' => N undef w'
  | .ok (.enter f args) w' => Calls P f args w' (fun e w'' => ∃ u, e = .returned u ∧ N u w'')
  | _ => False
def stepT (P : Program) (ops : Array Oper) (mk : Θ → Act) (listed : Array Bool) (θ : Θ) (i : Nat) (G : Θ → World → Prop) (w : World) : Prop :=
  match ops[i]? with
  | none => True
  | some o => (Region.wanted o (yielded ops (mk θ).tmps) = true → GivesT P (Next_ mk ops listed θ o.dst G) ((execOp (mk θ).eval o).run P w)) ∧ (Region.wanted o (yielded ops (mk θ).tmps) = false → slotV (mk θ) o.dst = undef ∧ G θ w)

theorem Mid.agree {a b : Act} {listed : Array Bool} {θ θ' : Θ} (h : Mid ops a (mk θ) listed b) (hg : Agree ops mk listed θ θ') (hs : (mk θ').tmps.size = (mk θ).tmps.size) (hd : (mk θ').defers = (mk θ).defers) (ho : ∀ t, isDst ops t = false → (mk θ').tmps[t]? = (mk θ).tmps[t]?) : Mid ops a (mk θ') listed b :=
  ⟨h.size, h.tsize.trans hs.symm, h.dfs.trans hd.symm, fun j o d hj hl hdst => (h.up j o d hj hl hdst).trans (hg j o d hj hl hdst).symm, fun t ht => (h.rest t ht).trans (ho t ht).symm⟩

theorem wpAny_certT {a : Act} {G : Array Bool → Θ → World → Prop} {Q : Exit → Act → World → Prop} (hB : certB ops = true) (hF : ∀ (i : Nat) o d, ops[i]? = some o → o.dst = some d → d < a.tmps.size)
    (hs : ∀ θ, (mk θ).tmps.size = a.tmps.size) (hd : ∀ θ, (mk θ).defers = a.defers) (ho : ∀ θ t, isDst ops t = false → a.tmps[t]? = (mk θ).tmps[t]?)
    (hstep : ∀ i, i < ops.size → ∀ listed θ w, listed.size = ops.size → Closed ops listed → (∀ j, waitsB ops i j = true → listed.getD j false = true) → listed.getD i true = false → G listed θ w → stepT P ops mk listed θ i (G (listed.setIfInBounds i true)) w)
    (hend : ∀ listed θ w, (∀ j, j < ops.size → listed.getD j false = true) → G listed θ w → Q .normal (mk θ) w) :
    ∀ (fuel : Nat) (listed : Array Bool) (b : Act) (w : World) (θ : Θ), listed.toList.count false = fuel → Mid ops a (mk θ) listed b → Closed ops listed → G listed θ w → wpAny P .any ops Q fuel listed b w := by
  have hdone : ∀ (listed : Array Bool) (b : Act) (w : World) (θ : Θ), listed.toList.count false = 0 → Mid ops a (mk θ) listed b → G listed θ w → Q .normal b w := by
    intro listed b w θ hc h hw
    have hall : ∀ j, j < ops.size → listed.getD j false = true := by
      intro j hj
      have hjl : j < listed.size := by rw [h.size]; exact hj
      have := count_zero hc (listed[j]'hjl) (by simp)
      simp [hjl, this]
    have hbF : b = mk θ := by
      have h1 := h.dfs
      have h2 : b.tmps = (mk θ).tmps := by
        apply Array.ext_getElem?
        intro t
        cases hx : isDst ops t with
        | false => exact h.rest t hx
        | true =>
          unfold isDst at hx
          obtain ⟨oj, hm, he⟩ := Array.any_eq_true'.1 hx
          obtain ⟨j, hj⟩ := Array.getElem?_of_mem hm
          exact h.up j oj t hj (hall j (Array.getElem?_eq_some_iff.1 hj).1) (by simpa using he)
      cases b
      cases hmk : mk θ
      rw [hmk] at h1 h2
      simp only at h1 h2
      rw [h1, h2]
    rw [hbF]
    exact hend listed θ w hall hw
  intro fuel
  induction fuel with
  | zero =>
    intro listed b w θ hc h _ hw
    refine ⟨?_, hdone listed b w θ hc h hw⟩
    rw [List.eq_nil_iff_forall_not_mem]
    intro j hj
    obtain ⟨hun, o, ho', _⟩ := mem_ready.1 hj
    have hjl : j < listed.size := by rw [h.size]; exact (Array.getElem?_eq_some_iff.1 ho').1
    have := count_zero hc (listed[j]'hjl) (by simp)
    simp [hjl, this] at hun
  | succ fuel ih =>
    intro listed b w θ hc h hcl hw
    refine ⟨fun h0 => ?_, fun i hi => ?_⟩
    · exfalso
      have hex : ∀ n, ∀ j, j < n → j < ops.size → listed.getD j true = false → ∃ i, i ∈ Region.ready .any ops listed := by
        intro n
        induction n with
        | zero => intro j hj; omega
        | succ n ihn =>
          intro j hj hjs hun
          by_cases hr : ∀ e ∈ (ops[j]'hjs).after, Region.binds .any e = true → listed.getD e.on false = true
          · exact ⟨j, mem_ready.2 ⟨hun, ops[j], Array.getElem?_eq_getElem hjs, hr⟩⟩
          · have : ∃ e, e ∈ (ops[j]'hjs).after ∧ Region.binds .any e = true ∧ ¬ listed.getD e.on false = true := by
              apply Classical.byContradiction
              intro hno
              apply hr
              intro e he hb
              apply Classical.byContradiction
              intro h3
              exact hno ⟨e, he, hb, h3⟩
            obtain ⟨e, he, hbe, hne⟩ := this
            have hlt := ((certB_spec hB).2 j _ (Array.getElem?_eq_getElem hjs)).1 e he hbe
            have hes : e.on < listed.size := by rw [h.size]; omega
            refine ihn e.on (by omega) (by omega) ?_
            simp [hes] at hne ⊢
            exact hne
      have hpos : ∃ j, j < ops.size ∧ listed.getD j true = false := by
        have hm : false ∈ listed.toList := List.count_pos_iff.1 (by omega)
        obtain ⟨j, hj, he⟩ := List.mem_iff_getElem.1 hm
        have hjl : j < listed.size := by simpa using hj
        refine ⟨j, by rw [← h.size]; exact hjl, ?_⟩
        simp [hjl]
        simpa using he
      obtain ⟨j, hj, hun⟩ := hpos
      obtain ⟨i, hi⟩ := hex (j + 1) j (by omega) hj hun
      rw [h0] at hi
      cases hi
    · obtain ⟨hun, o, ho', hall⟩ := mem_ready.1 hi
      have hil : i < listed.size := by rw [h.size]; exact (Array.getElem?_eq_some_iff.1 ho').1
      have hcnt : (listed.setIfInBounds i true).toList.count false = fuel := by
        have h1 : listed[i]'hil = false := by simpa [hil] using hun
        rw [Array.toList_setIfInBounds, List.count_set (by simpa using hil)]
        simp [h1, hc]
      have hst := hstep i (by rw [← h.size]; exact hil) listed θ w h.size hcl (ready_waits ho' hall) hun hw
      obtain ⟨e1, e2⟩ := h.exec hB ho' hall
      unfold stepT at hst
      simp only [ho'] at hst
      have hnext : ∀ u w', Next_ mk ops listed θ o.dst (G (listed.setIfInBounds i true)) u w' → wpAny P .any ops Q fuel (listed.setIfInBounds i true) (b.put o.dst u) w' := by
        rintro u w' ⟨θ', hag, hsl, hg⟩
        have hm := (h.agree hag ((hs θ').trans (hs θ).symm) ((hd θ').trans (hd θ).symm) (fun t ht => (ho θ' t ht).symm.trans (ho θ t ht))).next ho' (fun d hd' => by rw [hs]; exact hF i o d ho' hd')
        rw [hsl] at hm
        exact ih _ _ _ θ' hcnt hm (hcl.set ho' hall) hg
      unfold wpOp
      simp only [ho', e2]
      split
      · rename_i hwt
        refine .inl ?_
        have h1 := hst.1 hwt
        unfold Oper.wp
        rw [e1]
        generalize (execOp (mk θ).eval o).run P w = r at h1
        cases r with
        | halt x w' => simp only [GivesT] at h1
        | ok n w' =>
          cases n <;> simp only [GivesT] at h1 <;> simp only [Oper.upon]
          case value u => exact hnext u w' h1
          case skip => exact hnext undef w' h1
          case enter f args =>
            refine h1.mono fun e w'' ⟨u, he, hn⟩ => ?_
            subst he
            exact hnext u w'' hn
      · rename_i hwt
        have h1 := hst.2 (by simpa using hwt)
        exact hnext undef w ⟨θ, Agree.refl _ _, h1.1, h1.2⟩
end
section
variable {P : Program} {ops : Array Oper}
open Go.RowKit
/-- A region whose operations read, and call what lays memory of its own. -/
theorem wp_cert_b {id : Nat} {a : Act} {W : World} {Q : Exit → Act → World → Prop} (l : List (Tmp × Value)) (n : Nat) (hn : ops.size = n) (hm : P.follows .mixedOrders = true) (hB : certB ops = true)
    (hF : (ops.all fun o => match o.dst with | some d => decide (d < (putL a l).tmps.size) | none => true) = true) (ho : (l.map (·.1)).all (isDst ops) = true)
    (hstep : stepsFrom (fun i => ∀ w, Below W.heap.size W w → stepAt P ops (putL a l) i (Below W.heap.size W) w) 0 n) (hend : ∀ w, Below W.heap.size W w → Q .normal (putL a l) w) : (Code.region id ops true).wp P Q a W :=
  wp_certG (F := putL a l) (C := fun _ => Below W.heap.size W) rfl hm hB hF (putL_size l a).symm (putL_defers l a).symm (putL_out ho) (fun _ _ => below_drewN (Below.refl _ W) 1)
    (fun i hi _ w _ _ _ _ hw => stepsFrom_all n 0 hstep i (Nat.zero_le _) (by rw [hn] at hi; omega) w hw) (fun _ w _ hw => hend w hw)
/-- A call that lays memory of its own. -/
theorem at_call_b {W : World} {F : Act} {i : Nat} {o : Oper} {w : World} {f : FuncId} {args : Array Value} {v : Value} (hw : Below W.heap.size W w) (ho : ops[i]? = some o) (hg : Region.wanted o (yielded ops F.tmps) = true) (hv : slotV F o.dst = v)
    (h : (execOp F.eval o).run P w = .ok (.enter f args) w) (hc : Calls P f args w fun r w' => r = .returned v ∧ Below w.heap.size w w') : stepAt P ops F i (Below W.heap.size W) w :=
  at_call ho hg hv h (hc.mono fun _ _ ⟨h1, h2⟩ => ⟨h1, hw.trans (h2.mono hw.size)⟩)
theorem at_skip {F : Act} {N : World → Prop} {i : Nat} {o : Oper} {w : World} (hw : N w) (ho : ops[i]? = some o) (hg : Region.wanted o (yielded ops F.tmps) = false) (hv : slotV F o.dst = undef) : stepAt P ops F i N w := by
  unfold stepAt
  rw [ho]
  exact ⟨fun h => (by rw [hg] at h; cases h), fun _ => ⟨hv, hw⟩⟩
/-- A value told in another way. -/
theorem at_run {F : Act} {N : World → Prop} {i : Nat} {o : Oper} {w : World} {u v : Value} (hw : N w) (ho : ops[i]? = some o) (hg : Region.wanted o (yielded ops F.tmps) = true) (hv : slotV F o.dst = v) (h : (execOp F.eval o).run P w = .ok (.value u) w) (hu : u = v) : stepAt P ops F i N w :=
  at_pure hw ho hg (by rw [hv, ← hu]; exact h)

/-- What two calls hand back is known only when it comes. -/
def mk2 (a : Act) (l : List (Tmp × Value)) (d1 d2 : Tmp) (θ : Value × Value) : Act := ((putL a l).put (some d1) θ.1).put (some d2) θ.2
def onlyB (ops : Array Oper) (p d : Nat) : Bool := (List.range ops.size).all fun j => j == p || match ops[j]? with | some o => o.dst != some d | none => true
structure N2 (W : World) (R1 R2 : Value → World → Prop) (θ : Value × Value) (b1 b2 : Bool) (w : World) : Prop where
  bl : Below W.heap.size W w
  r1 : b1 = true → R1 θ.1 w
  r2 : b2 = true → R2 θ.2 w
theorem N2.below {W w w' : World} {R1 R2 : Value → World → Prop} {θ : Value × Value} {b1 b2 : Bool} (h : N2 W R1 R2 θ b1 b2 w) (m1 : ∀ v w w', R1 v w → Below w.heap.size w w' → R1 v w') (m2 : ∀ v w w', R2 v w → Below w.heap.size w w' → R2 v w') (hb : Below w.heap.size w w') : N2 W R1 R2 θ b1 b2 w' :=
  ⟨h.bl.trans (hb.mono h.bl.size), fun e => m1 _ _ _ (h.r1 e) hb, fun e => m2 _ _ _ (h.r2 e) hb⟩
theorem only_spec {p d j : Nat} {o : Oper} (h : onlyB ops p d = true) (hj : ops[j]? = some o) (hd : o.dst = some d) : j = p := by
  have h1 := List.all_eq_true.1 h j (List.mem_range.2 (Array.getElem?_eq_some_iff.1 hj).1)
  simp only [hj, hd, Bool.or_eq_true, beq_iff_eq, bne_self_eq_false, Bool.false_eq_true, or_false] at h1
  exact h1
theorem putTmp_other {a : Act} {d t : Nat} {v : Value} (h : d ≠ t) : (a.put (some d) v).tmps[t]? = a.tmps[t]? := by
  simp only [Act.put]
  exact Array.getElem?_setIfInBounds_ne h
theorem putTmp_same {a : Act} {d : Nat} {v : Value} (h : d < a.tmps.size) : slotV (a.put (some d) v) (some d) = v := by
  simp [slotV, Act.put, h]
theorem put_size_ {a : Act} {d : Nat} {v : Value} : (a.put (some d) v).tmps.size = a.tmps.size := by simp [Act.put]
theorem stepT_of_at {Θ : Type} {mk : Θ → Act} {listed : Array Bool} {θ : Θ} {i : Nat} {G : Θ → World → Prop} {w : World} (h : stepAt P ops (mk θ) i (G θ) w) : stepT P ops mk listed θ i G w := by
  unfold stepAt at h
  unfold stepT
  split
  · trivial
  · rename_i o ho
    rw [ho] at h
    refine ⟨fun hw => ?_, h.2⟩
    have h1 := h.1 hw
    generalize (execOp (mk θ).eval o).run P w = r at h1
    cases r with
    | halt x w' => simp only [Gives] at h1
    | ok n w' =>
      cases n <;> simp only [Gives] at h1 <;> simp only [GivesT]
      case value u => exact ⟨θ, Agree.refl _ _, h1.2.symm, h1.1⟩
      case skip => exact ⟨θ, Agree.refl _ _, h1.2, h1.1⟩
      case enter f args => exact h1.mono fun e w'' ⟨he, hn⟩ => ⟨_, he, θ, Agree.refl _ _, rfl, hn⟩
theorem wp_cert_b2 {id : Nat} {a : Act} {W : World} {R1 R2 : Value → World → Prop} {Q : Exit → Act → World → Prop} (l : List (Tmp × Value)) (p q d1 d2 n : Nat) (hn : ops.size = n) (hm : P.follows .mixedOrders = true) (hB : certB ops = true) (hp : p < n) (hq : q < n) (hpq : p ≠ q) (hd : d1 ≠ d2) (hd1 : d1 < a.tmps.size) (hd2 : d2 < a.tmps.size)
    (o1 : onlyB ops p d1 = true) (o2 : onlyB ops q d2 = true)
    (hF : (ops.all fun o => match o.dst with | some d => decide (d < a.tmps.size) | none => true) = true) (ho : ((l.map (·.1)) ++ [d1, d2]).all (isDst ops) = true)
    (m1 : ∀ v w w', R1 v w → Below w.heap.size w w' → R1 v w') (m2 : ∀ v w w', R2 v w → Below w.heap.size w w' → R2 v w')
    (hstep : stepsFrom (fun i => i ≠ p → i ≠ q → ∀ θ b1 b2 w, (waitsB ops i p = true → b1 = true) → (waitsB ops i q = true → b2 = true) → N2 W R1 R2 θ b1 b2 w → stepAt P ops (mk2 a l d1 d2 θ) i (N2 W R1 R2 θ b1 b2) w) 0 n)
    (hp1 : ∀ θ w, Below W.heap.size W w → ∃ o f args, ops[p]? = some o ∧ o.dst = some d1 ∧ Region.wanted o (yielded ops (mk2 a l d1 d2 θ).tmps) = true ∧ (execOp (mk2 a l d1 d2 θ).eval o).run P w = .ok (.enter f args) w ∧ Calls P f args w fun r w' => ∃ v, r = .returned v ∧ R1 v w' ∧ Below w.heap.size w w')
    (hq1 : ∀ θ w, Below W.heap.size W w → ∃ o f args, ops[q]? = some o ∧ o.dst = some d2 ∧ Region.wanted o (yielded ops (mk2 a l d1 d2 θ).tmps) = true ∧ (execOp (mk2 a l d1 d2 θ).eval o).run P w = .ok (.enter f args) w ∧ Calls P f args w fun r w' => ∃ v, r = .returned v ∧ R2 v w' ∧ Below w.heap.size w w')
    (hend : ∀ θ w, N2 W R1 R2 θ true true w → Q .normal (mk2 a l d1 d2 θ) w) : (Code.region id ops true).wp P Q a W := by
  have hsz : ∀ θ, (mk2 a l d1 d2 θ).tmps.size = a.tmps.size := fun θ => by simp only [mk2, put_size_, putL_size]
  have hdf : ∀ θ, (mk2 a l d1 d2 θ).defers = a.defers := fun θ => by simp only [mk2, Act.put, putL_defers]
  rw [List.all_append, Bool.and_eq_true] at ho
  have hx1 : isDst ops d1 = true := by have := ho.2; simp at this; exact this.1
  have hx2 : isDst ops d2 = true := by have := ho.2; simp at this; exact this.2
  have hout : ∀ θ t, isDst ops t = false → a.tmps[t]? = (mk2 a l d1 d2 θ).tmps[t]? := fun θ t ht => by
    have e1 : d1 ≠ t := by rintro rfl; rw [hx1] at ht; cases ht
    have e2 : d2 ≠ t := by rintro rfl; rw [hx2] at ht; cases ht
    rw [mk2, putTmp_other e2, putTmp_other e1]
    exact putL_out ho.1 t ht
  have hrep : ∀ j, (Array.replicate ops.size false).getD j false = false := by
    intro j
    rcases Nat.lt_or_ge j ops.size with h | h <;> simp [h]
  refine wp_region_any hm (wpAny_certT (mk := mk2 a l d1 d2) (G := fun L θ w => N2 W R1 R2 θ (L.getD p false) (L.getD q false) w) hB ?_ hsz hdf hout ?_ ?_ _ _ _ _ (undef, undef) (by simp) ⟨by simp, (hsz _).symm, (hdf _).symm, ?_, fun t ht => hout _ t ht⟩ ?_ ?_)
  · intro i o d hi hdst
    obtain ⟨hlt, hio⟩ := Array.getElem?_eq_some_iff.1 hi
    have h1 := Array.all_eq_true'.1 hF o (by rw [← hio]; exact Array.getElem_mem hlt)
    simpa [hdst] using h1
  · intro i hi L θ w hLs hcl hrd hun hw
    have h1 : L.getD i false = false := by simp [hLs, hi] at hun ⊢; exact hun
    have hset : (L.setIfInBounds i true).getD i false = true := by simp [hLs, hi]
    by_cases hip : i = p
    · subst hip
      obtain ⟨o, f, args, e1, e2, e3, e4, e5⟩ := hp1 θ w hw.bl
      unfold stepT
      rw [e1]
      refine ⟨fun _ => ?_, fun h => by rw [e3] at h; cases h⟩
      rw [e4]
      refine e5.mono fun r w' ⟨v, hr, hR, hb⟩ => ⟨v, hr, (v, θ.2), ?_, ?_, ?_⟩
      · intro j oj d hj hl hdj
        by_cases hjd : d = d1
        · subst hjd
          have := only_spec o1 hj hdj
          subst this
          rw [h1] at hl
          cases hl
        · by_cases hjd2 : d = d2
          · subst hjd2
            simp only [mk2, Act.put]
            rw [Array.getElem?_setIfInBounds_self_of_lt (by simpa [putL_size] using hd2), Array.getElem?_setIfInBounds_self_of_lt (by simpa [putL_size] using hd2)]
          · rw [mk2, mk2, putTmp_other (Ne.symm hjd2), putTmp_other (Ne.symm hjd2), putTmp_other (Ne.symm hjd), putTmp_other (Ne.symm hjd)]
      · rw [e2]
        simp only [slotV, mk2, Act.put, Array.getD_eq_getD_getElem?]
        rw [Array.getElem?_setIfInBounds_ne (Ne.symm hd)]
        simp [putL_size, hd1]
      · rw [hset, getD_set_ne false hpq]
        exact ⟨hw.bl.trans (hb.mono hw.bl.size), fun _ => hR, fun e => m2 _ _ _ (hw.r2 e) hb⟩
    · by_cases hiq : i = q
      · subst hiq
        obtain ⟨o, f, args, e1, e2, e3, e4, e5⟩ := hq1 θ w hw.bl
        unfold stepT
        rw [e1]
        refine ⟨fun _ => ?_, fun h => by rw [e3] at h; cases h⟩
        rw [e4]
        refine e5.mono fun r w' ⟨v, hr, hR, hb⟩ => ⟨v, hr, (θ.1, v), ?_, ?_, ?_⟩
        · intro j oj d hj hl hdj
          by_cases hjd : d = d2
          · subst hjd
            have := only_spec o2 hj hdj
            subst this
            rw [h1] at hl
            cases hl
          · rw [mk2, mk2, putTmp_other (Ne.symm hjd), putTmp_other (Ne.symm hjd)]
        · rw [e2]
          exact putTmp_same (by rw [put_size_, putL_size]; exact hd2)
        · rw [hset, getD_set_ne false hip]
          exact ⟨hw.bl.trans (hb.mono hw.bl.size), fun e => m1 _ _ _ (hw.r1 e) hb, fun _ => hR⟩
      · refine stepT_of_at ?_
        rw [getD_set_ne false hip, getD_set_ne false hiq]
        exact stepsFrom_all n 0 hstep i (Nat.zero_le _) (by rw [hn] at hi; omega) hip hiq θ _ _ w (hrd p) (hrd q) hw
  · intro L θ w hall hw
    rw [hall p (by rw [hn]; exact hp), hall q (by rw [hn]; exact hq)] at hw
    exact hend θ w hw
  · intro j o d _ hl
    rw [hrep] at hl
    cases hl
  · intro j o _ hl
    rw [hrep] at hl
    cases hl
  · rw [hrep, hrep]
    exact ⟨below_drewN (Below.refl _ W) 1, (fun h => by cases h), (fun h => by cases h)⟩
end
end RC
end Go.Proofs.Ytjanmnjmnnnfmaa
