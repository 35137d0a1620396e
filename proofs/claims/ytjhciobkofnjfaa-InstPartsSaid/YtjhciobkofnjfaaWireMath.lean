/- Plain mathematics of chapter 3: numbers as groups of seven bits, and back. No program in sight. -/
namespace Go.Proofs.Ytjhciobkofnjfaa.WM

/-- A number's groups of seven bits, the lowest first; each but the last has 128 added. -/
def enc (n : Nat) : List UInt8 :=
  if n < 128 then [UInt8.ofNat n] else UInt8.ofNat (n % 128 + 128) :: enc (n / 128)
termination_by n
decreasing_by omega

theorem enc_lt {n : Nat} (h : n < 128) : enc n = [UInt8.ofNat n] := by rw [enc, if_pos h]
theorem enc_ge {n : Nat} (h : ¬ n < 128) : enc n = UInt8.ofNat (n % 128 + 128) :: enc (n / 128) := by rw [enc, if_neg h]

theorem enc_ne (n : Nat) : enc n ≠ [] := by
  rw [enc]; split <;> simp

theorem enc_length_pos (n : Nat) : 0 < (enc n).length := List.length_pos_iff.2 (enc_ne n)

/-- A number below 128^k takes at most k groups. -/
theorem enc_length_le (k : Nat) : ∀ n, n < 128 ^ (k + 1) → (enc n).length ≤ k + 1 := by
  induction k with
  | zero => intro n h; rw [enc_lt (by simpa using h)]; simp
  | succ k ih =>
    intro n h
    by_cases hn : n < 128
    · rw [enc_lt hn]; simp
    · rw [enc_ge hn, List.length_cons]
      have : n / 128 < 128 ^ (k + 1) := by
        rw [Nat.div_lt_iff_lt_mul (by omega)]
        simpa [Nat.pow_succ] using h
      have := ih _ this
      omega

theorem enc_length_ten {n : Nat} (h : n < 18446744073709551616) : (enc n).length ≤ 10 := by
  refine enc_length_le 9 n (Nat.lt_of_lt_of_le h ?_)
  decide

/-- The sign goes into the lowest bit. -/
def zz (v : Int) : Nat := if 0 ≤ v then (2 * v).toNat else (-2 * v - 1).toNat
/-- And back. -/
def uz (n : Nat) : Int := if n % 2 = 0 then (n / 2 : Nat) else -((n / 2 : Nat) : Int) - 1

theorem uz_zz (v : Int) : uz (zz v) = v := by
  unfold zz uz
  split <;> split <;> omega

theorem zz_uz (n : Nat) : zz (uz n) = n := by
  unfold uz zz
  split <;> split <;> omega

theorem zz_lt {v : Int} (h1 : -9223372036854775808 ≤ v) (h2 : v ≤ 9223372036854775807) : zz v < 18446744073709551616 := by
  unfold zz
  split <;> omega

theorem uz_bd {n : Nat} (h : n < 18446744073709551616) : -9223372036854775808 ≤ uz n ∧ uz n ≤ 9223372036854775807 := by
  unfold uz
  split <;> omega

def encI (v : Int) : List UInt8 := enc (zz v)

/-- What reading a number from group i on comes to: the number and how many bytes, or an error. -/
inductive Got where
  | ok (n k : Nat)
  | err (e : Int)

def Got.more (c : Nat) : Got → Got
  | .ok n k => .ok (c % 128 + 128 * n) (k + 1)
  | .err e => .err e

def dec (i : Nat) : List UInt8 → Got
  | [] => .err 5
  | c :: r =>
    if i = 9 ∧ 1 < c.toNat then .err 4
    else if 128 ≤ c.toNat then (dec (i + 1) r).more c.toNat
    else if c.toNat = 0 ∧ 0 < i then .err 4
    else .ok c.toNat 1

theorem toNat_ofNat_lt {n : Nat} (h : n < 256) : (UInt8.ofNat n).toNat = n := by
  rw [UInt8.toNat_ofNat']; omega

/-- What was laid is read. -/
theorem dec_enc (rest : List UInt8) : ∀ (j i n : Nat), i + j = 9 → n < 2 * 128 ^ j → (0 < i → 0 < n) → dec i (enc n ++ rest) = .ok n (enc n).length := by
  intro j
  induction j with
  | zero =>
    intro i n hi hn h0
    have hn2 : n < 2 := by simpa using hn
    rw [enc_lt (by omega)]
    simp only [List.cons_append, List.nil_append, dec, toNat_ofNat_lt (show n < 256 by omega), List.length_cons, List.length_nil]
    rw [if_neg (by omega), if_neg (by omega), if_neg (by omega)]
  | succ j ih =>
    intro i n hi hn h0
    by_cases hlt : n < 128
    · rw [enc_lt hlt]
      simp only [List.cons_append, List.nil_append, dec, toNat_ofNat_lt (show n < 256 by omega), List.length_cons, List.length_nil]
      rw [if_neg (by omega), if_neg (by omega), if_neg (by omega)]
    · rw [enc_ge hlt]
      have hd : n / 128 < 2 * 128 ^ j := by
        rw [Nat.div_lt_iff_lt_mul (by omega)]
        rw [Nat.pow_succ] at hn
        omega
      have hr := ih (i + 1) (n / 128) (by omega) hd (by omega)
      simp only [List.cons_append, dec, toNat_ofNat_lt (show n % 128 + 128 < 256 by omega), List.length_cons]
      rw [if_neg (by omega), if_pos (by omega), hr]
      simp only [Got.more, Got.ok.injEq, and_true]
      omega

theorem dec_enc_top (rest : List UInt8) {n : Nat} (h : n < 18446744073709551616) : dec 0 (enc n ++ rest) = .ok n (enc n).length :=
  dec_enc rest 9 0 n rfl (by simpa using h) (by omega)

theorem dec_encI (rest : List UInt8) {v : Int} (h1 : -9223372036854775808 ≤ v) (h2 : v ≤ 9223372036854775807) : dec 0 (encI v ++ rest) = .ok (zz v) (encI v).length :=
  dec_enc_top rest (zz_lt h1 h2)

theorem ofNat_toNat (c : UInt8) : UInt8.ofNat c.toNat = c := by simp

/-- What is read without an error stood there as it is laid. -/
theorem enc_dec : ∀ (l : List UInt8) (i n k : Nat), i ≤ 9 → dec i l = .ok n k → k ≤ l.length ∧ l.take k = enc n ∧ n < 2 * 128 ^ (9 - i) ∧ 0 < k ∧ (0 < i → 0 < n) := by
  intro l
  induction l with
  | nil => intro i n k _ h; simp [dec] at h
  | cons c r ih =>
    intro i n k hi h
    have hc : c.toNat < 256 := c.toNat_lt
    simp only [dec] at h
    by_cases h1 : i = 9 ∧ 1 < c.toNat
    · rw [if_pos h1] at h; cases h
    rw [if_neg h1] at h
    by_cases h2 : 128 ≤ c.toNat
    · rw [if_pos h2] at h
      have hi9 : i < 9 := by omega
      cases hd : dec (i + 1) r with
      | err e => rw [hd] at h; simp [Got.more] at h
      | ok m q =>
        rw [hd] at h
        simp only [Got.more, Got.ok.injEq] at h
        obtain ⟨rfl, rfl⟩ := h
        obtain ⟨a1, a2, a3, a4, a5⟩ := ih (i + 1) m q (by omega) hd
        have hm := a5 (by omega)
        have hnl : ¬ c.toNat % 128 + 128 * m < 128 := by omega
        have e1 : (c.toNat % 128 + 128 * m) / 128 = m := by omega
        have e2 : (c.toNat % 128 + 128 * m) % 128 + 128 = c.toNat := by omega
        refine ⟨by simpa using a1, ?_, ?_, by omega, by omega⟩
        · rw [enc_ge hnl, e1, e2, ofNat_toNat, List.take_succ_cons, a2]
        · have e : 9 - i = (9 - (i + 1)) + 1 := by omega
          rw [e, Nat.pow_succ]
          omega
    · rw [if_neg h2] at h
      by_cases h3 : c.toNat = 0 ∧ 0 < i
      · rw [if_pos h3] at h; cases h
      rw [if_neg h3] at h
      simp only [Got.ok.injEq] at h
      obtain ⟨rfl, rfl⟩ := h
      refine ⟨by simp, ?_, ?_, by omega, by omega⟩
      · rw [enc_lt (by omega), ofNat_toNat]; simp
      · by_cases e9 : i = 9
        · subst e9; simp; omega
        · have : 128 ^ 1 ≤ 128 ^ (9 - i) := Nat.pow_le_pow_right (by omega) (by omega)
          omega

/-- What is cut short is short. -/
theorem dec_cut : ∀ (j i n : Nat) (p q : List UInt8), i + j = 9 → n < 2 * 128 ^ j → enc n = p ++ q → q ≠ [] → dec i p = .err 5 := by
  intro j
  induction j with
  | zero =>
    intro i n p q hi hn he hq
    rw [enc_lt (by omega)] at he
    cases p with
    | nil => rfl
    | cons c p =>
      simp only [List.cons_append, List.cons.injEq] at he
      have := he.2
      simp at this
      exact absurd this.2 hq
  | succ j ih =>
    intro i n p q hi hn he hq
    cases p with
    | nil => rfl
    | cons c p =>
      by_cases hlt : n < 128
      · rw [enc_lt hlt] at he
        simp only [List.cons_append, List.cons.injEq] at he
        have := he.2
        simp at this
        exact absurd this.2 hq
      · rw [enc_ge hlt] at he
        simp only [List.cons_append, List.cons.injEq] at he
        obtain ⟨rfl, he⟩ := he
        have hd : n / 128 < 2 * 128 ^ j := by
          rw [Nat.div_lt_iff_lt_mul (by omega)]
          rw [Nat.pow_succ] at hn
          omega
        have hr := ih (i + 1) (n / 128) p q (by omega) hd he hq
        simp only [dec, toNat_ofNat_lt (show n % 128 + 128 < 256 by omega)]
        rw [if_neg (by omega), if_pos (by omega), hr]
        rfl

theorem dec_cut_top {v : Int} (h1 : -9223372036854775808 ≤ v) (h2 : v ≤ 9223372036854775807) {p q : List UInt8} (he : encI v = p ++ q) (hq : q ≠ []) : dec 0 p = .err 5 :=
  dec_cut 9 0 (zz v) p q rfl (by simpa using zz_lt h1 h2) he hq

end Go.Proofs.Ytjhciobkofnjfaa.WM
