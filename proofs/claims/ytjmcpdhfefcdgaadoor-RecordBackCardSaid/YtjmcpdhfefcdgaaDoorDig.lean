/- Numbers as bytes: what the document defines, in plain lists. No program in sight. -/
import Derived.Laws.BitsLemmas
namespace Go.Proofs.YtjmcpdhfefcdgaaDoor
namespace Dig

theorem snoc_ind {α : Type} {p : List α → Prop} (h0 : p []) (h : ∀ l a, p l → p (l ++ [a])) : ∀ l, p l := by
  intro l
  rw [← List.reverse_reverse l]
  induction l.reverse with
  | nil => simpa using h0
  | cons a l ih => rw [List.reverse_cons]; exact h _ _ ih
theorem head_append {α : Type} (l r : List α) (h : l ≠ []) : (l ++ r).head? = l.head? := by
  cases l with
  | nil => exact absurd rfl h
  | cons a l => rfl

/-- A number's digits, the highest first; 0 has none. -/
def dig (n : Nat) : List UInt8 := if n = 0 then [] else dig (n / 256) ++ [UInt8.ofNat n]
termination_by n
decreasing_by omega

theorem dig_zero : dig 0 = [] := by rw [dig]; simp
theorem dig_pos (n : Nat) (h : 0 < n) : dig n = dig (n / 256) ++ [UInt8.ofNat n] := by
  rw [dig, if_neg (by omega)]

theorem dig_len (n k : Nat) (h : n < 256 ^ k) : (dig n).length ≤ k := by
  induction k generalizing n with
  | zero => have : n = 0 := by simpa using h
            subst this; simp [dig_zero]
  | succ k ih =>
    by_cases h0 : n = 0
    · subst h0; simp [dig_zero]
    · rw [dig_pos n (by omega)]
      have : n / 256 < 256 ^ k := by
        rw [Nat.pow_succ] at h
        exact Nat.div_lt_of_lt_mul (by rw [Nat.mul_comm]; exact h)
      have := ih _ this
      simp; omega

theorem dig_len8 (n : Nat) (h : n < 18446744073709551616) : (dig n).length ≤ 8 := dig_len n 8 h

/-- A number's bytes: how many digits, then the digits. -/
def numB (n : Nat) : List UInt8 := UInt8.ofNat (dig n).length :: dig n

/-- The number of digits. -/
def val (l : List UInt8) : Nat := l.foldl (fun v b => 256 * v + b.toNat) 0

theorem val_snoc (l : List UInt8) (b : UInt8) : val (l ++ [b]) = 256 * val l + b.toNat := by simp [val]
theorem val_nil : val [] = 0 := rfl

theorem val_dig (n : Nat) : val (dig n) = n := by
  induction n using Nat.strongRecOn with
  | _ n ih =>
    by_cases h0 : n = 0
    · subst h0; simp [dig_zero, val]
    · rw [dig_pos n (by omega), val_snoc, ih (n / 256) (by omega), UInt8.toNat_ofNat']
      omega

theorem val_lt (l : List UInt8) : val l < 256 ^ l.length := by
  revert l
  refine snoc_ind ?_ ?_
  · simp [val]
  · intro l b ih
    rw [val_snoc, List.length_append, List.length_singleton, Nat.pow_succ]
    have := b.toNat_lt
    omega

theorem dig_ne_nil (n : Nat) (h : 0 < n) : dig n ≠ [] := by rw [dig_pos n h]; simp

theorem dig_head (n : Nat) : (dig n).head? ≠ some 0 := by
  induction n using Nat.strongRecOn with
  | _ n ih =>
    by_cases h0 : n = 0
    · subst h0; simp [dig_zero]
    · rw [dig_pos n (by omega)]
      by_cases h1 : n / 256 = 0
      · rw [h1, dig_zero]
        intro h
        simp only [List.nil_append, List.head?_cons, Option.some.injEq] at h
        have := congrArg UInt8.toNat h
        rw [UInt8.toNat_ofNat'] at this
        simp at this; omega
      · have hn := dig_ne_nil (n / 256) (by omega)
        rw [head_append _ _ hn]
        exact ih (n / 256) (by omega)

/-- Digits without a nought ahead are the digits of their number. -/
theorem dig_val (l : List UInt8) (h : l.head? ≠ some 0) : dig (val l) = l := by
  revert l
  refine snoc_ind ?_ ?_
  · intro _; simp [val, dig_zero]
  · intro l b ih h
    have hb := b.toNat_lt
    have hbo : UInt8.ofNat (256 * val l + b.toNat) = b := by
      apply UInt8.toNat_inj.mp; rw [UInt8.toNat_ofNat']; omega
    rw [val_snoc]
    by_cases hl : l = []
    · subst hl
      have hb0 : b ≠ 0 := by intro e; subst e; simp at h
      have hb1 : 0 < b.toNat := by
        rcases Nat.eq_zero_or_pos b.toNat with e | e
        · exact absurd (UInt8.toNat_inj.mp e) hb0
        · exact e
      rw [val_nil, dig_pos _ (by omega)]
      have : (256 * 0 + b.toNat) / 256 = 0 := by omega
      rw [this, dig_zero]
      have e2 : UInt8.ofNat (256 * 0 + b.toNat) = b := by apply UInt8.toNat_inj.mp; rw [UInt8.toNat_ofNat']; omega
      rw [e2]
    · have h2 : l.head? ≠ some 0 := by rwa [head_append _ _ hl] at h
      have ih := ih h2
      have hpos : 0 < val l := by
        rcases Nat.eq_zero_or_pos (val l) with e | e
        · rw [e, dig_zero] at ih; exact absurd ih.symm hl
        · exact e
      rw [dig_pos _ (by omega), hbo]
      have : (256 * val l + b.toNat) / 256 = val l := by omega
      rw [this, ih]

/-- The number at the front of bytes; in how many; which error (0: none). -/
def getNum : List UInt8 → Nat × Nat × Nat
  | [] => (0, 0, 1)
  | c :: rest =>
    if 8 < c.toNat then (0, 0, 2)
    else if rest.length < c.toNat then (0, 0, 1)
    else if 0 < c.toNat ∧ rest.head? = some 0 then (0, 0, 3)
    else (val (rest.take c.toNat), c.toNat + 1, 0)

theorem getNum_lt (l : List UInt8) : (getNum l).1 < 18446744073709551616 := by
  unfold getNum
  cases l with
  | nil => decide
  | cons c rest =>
    simp only
    split
    · decide
    · split
      · decide
      · split
        · decide
        · rename_i h1 h2 h3
          have := val_lt (rest.take c.toNat)
          have hl : (rest.take c.toNat).length ≤ 8 := by rw [List.length_take]; omega
          have h8 : 256 ^ (rest.take c.toNat).length ≤ 256 ^ 8 := Nat.pow_le_pow_right (by decide) hl
          have : (256 : Nat) ^ 8 = 18446744073709551616 := by decide
          show val (rest.take c.toNat) < _
          omega

theorem getNum_le (l : List UInt8) : (getNum l).2.1 ≤ l.length := by
  unfold getNum
  cases l with
  | nil => decide
  | cons c rest =>
    simp only
    split
    · simp
    · split
      · simp
      · split
        · simp
        · simp only [List.length_cons]; omega

theorem getNum_le9 (l : List UInt8) : (getNum l).2.1 ≤ 9 := by
  unfold getNum
  cases l with
  | nil => decide
  | cons c rest =>
    simp only
    split
    · simp
    · split
      · simp
      · split
        · simp
        · simp only; omega

theorem getNum_ok (l : List UInt8) : (getNum l).2.2 = 0 ∨ (getNum l).2.2 = 1 ∨ (getNum l).2.2 = 2 ∨ (getNum l).2.2 = 3 := by
  unfold getNum
  cases l with
  | nil => simp
  | cons c rest =>
    simp only
    split
    · simp
    · split
      · simp
      · split <;> simp

theorem numB_len (n : Nat) : (numB n).length = (dig n).length + 1 := by simp [numB]

/-- What is written is got again, whatever follows. -/
theorem getNum_numB (n : Nat) (h : n < 18446744073709551616) (r : List UInt8) : getNum (numB n ++ r) = (n, (numB n).length, 0) := by
  have hl := dig_len8 n h
  have hc : (UInt8.ofNat (dig n).length).toNat = (dig n).length := by rw [UInt8.toNat_ofNat']; omega
  have hh : ¬ (0 < (dig n).length ∧ (dig n ++ r).head? = some 0) := by
    rintro ⟨h1, h2⟩
    have hne : dig n ≠ [] := by intro e; rw [e] at h1; simp at h1
    rw [head_append _ _ hne] at h2
    exact dig_head n h2
  simp only [numB, List.cons_append, getNum, hc]
  rw [if_neg (by omega), if_neg (by simp), if_neg hh]
  simp [val_dig]

/-- What is got is written as it was. -/
theorem numB_getNum (l : List UInt8) (h : (getNum l).2.2 = 0) : numB (getNum l).1 = l.take (getNum l).2.1 ∧ 0 < (getNum l).2.1 := by
  cases l with
  | nil => simp [getNum] at h
  | cons c rest =>
    simp only [getNum] at h ⊢
    split at h
    · simp at h
    · split at h
      · simp at h
      · split at h
        · simp at h
        · rename_i h1 h2 h3
          rw [if_neg h1, if_neg h2, if_neg h3]
          simp only [List.take_succ_cons]
          refine ⟨?_, by omega⟩
          have hhd : (rest.take c.toNat).head? ≠ some 0 := by
            intro e
            apply h3
            by_cases hc : c.toNat = 0
            · rw [hc] at e; simp at e
            · refine ⟨by omega, ?_⟩
              rw [List.head?_take] at e
              simpa [hc] using e
          have hd := dig_val _ hhd
          simp only [numB, hd]
          congr 1
          apply UInt8.toNat_inj.mp
          rw [UInt8.toNat_ofNat', List.length_take]
          have := c.toNat_lt
          omega
end Dig

namespace Dig
/-- A number with a sign as the number that it is written as. -/
def zig (n : Int) : Nat := if n < 0 then 2 * (-(n + 1)).toNat + 1 else 2 * n.toNat
def zag (n : Nat) : Int := if n % 2 = 1 then -((n / 2 : Nat) : Int) - 1 else ((n / 2 : Nat) : Int)
theorem zag_zig (n : Int) : zag (zig n) = n := by unfold zag zig; split <;> split <;> omega
theorem zig_zag (n : Nat) : zig (zag n) = n := by unfold zag zig; split <;> split <;> omega
theorem zig_lt (n : Int) (h0 : -9223372036854775808 ≤ n) (h1 : n < 9223372036854775808) : zig n < 18446744073709551616 := by unfold zig; split <;> omega
/-- A text's bytes. -/
def textB (s : List UInt8) : List UInt8 := numB s.length ++ s
/-- The text at the front of bytes, in how many, and the error. -/
def getText (l : List UInt8) (most : Int) : List UInt8 × Nat × Nat :=
  match getNum l with
  | (n, k, e) => if e ≠ 0 then ([], 0, e) else if most < 0 ∨ most < n then ([], 0, 8) else if l.length - k < n then ([], 0, 1) else ((l.drop k).take n, k + n, 0)
theorem getText_le (l : List UInt8) (most : Int) : (getText l most).2.1 ≤ l.length := by
  unfold getText
  have h := getNum_le l
  rcases hg : getNum l with ⟨n, k, e⟩
  rw [hg] at h
  simp only at h ⊢
  split
  · simp
  · split
    · simp
    · split
      · simp
      · simp only; omega
theorem getText_textB (t r : List UInt8) (most : Int) (h : t.length < 18446744073709551616) (hm : (t.length : Int) ≤ most) : getText (textB t ++ r) most = (t, (textB t).length, 0) := by
  have hg : getNum (textB t ++ r) = (t.length, (numB t.length).length, 0) := by
    rw [textB, List.append_assoc, getNum_numB _ h]
  unfold getText
  rw [hg]
  simp only [ne_eq, not_true_eq_false, if_false]
  rw [if_neg (by omega), if_neg (by simp [textB])]
  simp [textB]
end Dig

namespace Dig
theorem getNum_cut (n : Nat) (h : n < 18446744073709551616) (k : Nat) (hk : k < (numB n).length) : getNum ((numB n).take k) = (0, 0, 1) := by
  have hl := dig_len8 n h
  cases k with
  | zero => rfl
  | succ k =>
    have hc : (UInt8.ofNat (dig n).length).toNat = (dig n).length := by rw [UInt8.toNat_ofNat']; omega
    rw [numB_len] at hk
    simp only [numB, List.take_succ_cons, getNum, hc]
    rw [if_neg (by omega), if_pos (by rw [List.length_take]; omega)]

theorem getText_cut (t : List UInt8) (h : t.length < 18446744073709551616) (k : Nat) (hk : k < (textB t).length) : (getText ((textB t).take k) t.length).2.2 = 1 := by
  by_cases hn : k < (numB t.length).length
  · have e : (textB t).take k = (numB t.length).take k := by rw [textB, List.take_append_of_le_length (by omega)]
    unfold getText
    rw [e, getNum_cut _ h k hn]
    simp
  · have e : (textB t).take k = numB t.length ++ t.take (k - (numB t.length).length) := by rw [textB, List.take_append, List.take_of_length_le (by omega)]
    rw [textB, List.length_append] at hk
    unfold getText
    rw [e, getNum_numB _ h]
    simp only [ne_eq, not_true_eq_false, if_false]
    rw [if_neg (by omega), if_pos (by rw [List.length_append, List.length_take]; omega)]

theorem getText_fewer (t r : List UInt8) (h : t.length < 18446744073709551616) : (getText (textB t ++ r) ((t.length : Int) - 1)).2.2 = 8 := by
  have hg : getNum (textB t ++ r) = (t.length, (numB t.length).length, 0) := by
    rw [textB, List.append_assoc, getNum_numB _ h]
  unfold getText
  rw [hg]
  simp only [ne_eq, not_true_eq_false, if_false]
  rw [if_pos (by omega)]
end Dig
end Go.Proofs.YtjmcpdhfefcdgaaDoor
