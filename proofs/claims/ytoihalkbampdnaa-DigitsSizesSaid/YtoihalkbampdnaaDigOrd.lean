/- Of two numbers the greater one's bytes are the greater ones: plain lists. -/
import Derived.Test.YtoihalkbampdnaaDig
import GoSem.Op.String
namespace Go.Proofs.Ytoihalkbampdnaa
namespace Dig

theorem val_cons (c : UInt8) (l : List UInt8) : val (c :: l) = c.toNat * 256 ^ l.length + val l := by
  revert c
  refine snoc_ind (p := fun l => ∀ c : UInt8, val (c :: l) = c.toNat * 256 ^ l.length + val l) ?_ ?_ l
  · intro c; simp [val]
  · intro l b ih c
    have : val (c :: (l ++ [b])) = 256 * val (c :: l) + b.toNat := by rw [show c :: (l ++ [b]) = (c :: l) ++ [b] from rfl, val_snoc]
    rw [this, ih, val_snoc, List.length_append, List.length_singleton, Nat.pow_succ, Nat.mul_add, Nat.mul_comm (256 ^ l.length) 256, ← Nat.mul_assoc, ← Nat.mul_assoc, Nat.mul_comm 256 c.toNat]
    omega

theorem less_same (a b : List UInt8) (h : a.length = b.length) : Op.bytesLess a b = decide (val a < val b) := by
  induction a generalizing b with
  | nil =>
    cases b with
    | nil => rfl
    | cons y b => simp at h
  | cons x a ih =>
    cases b with
    | nil => simp at h
    | cons y b =>
      simp only [List.length_cons, Nat.add_right_cancel_iff] at h
      have ih := ih b h
      rw [val_cons, val_cons, h]
      have ha := val_lt a
      have hb := val_lt b
      rw [h] at ha
      simp only [Op.bytesLess, ih]
      generalize 256 ^ b.length = p at ha hb ⊢
      rcases Nat.lt_trichotomy x.toNat y.toNat with hlt | heq | hgt
      · have h1 : x < y := UInt8.lt_iff_toNat_lt.mpr hlt
        have h2 : x.toNat * p + val a < y.toNat * p + val b := by
          have : (x.toNat + 1) * p ≤ y.toNat * p := Nat.mul_le_mul_right p hlt
          rw [Nat.add_mul, Nat.one_mul] at this
          omega
        simp [h1, h2]
      · have h1 : x = y := UInt8.toNat_inj.mp heq
        subst h1
        have h2 : ¬ x < x := fun h => by have := UInt8.lt_iff_toNat_lt.mp h; omega
        simp [h2]
      · have h1 : ¬ x < y := fun h => by have := UInt8.lt_iff_toNat_lt.mp h; omega
        have h3 : (x == y) = false := by rw [beq_eq_false_iff_ne]; intro e; subst e; omega
        have h2 : ¬ x.toNat * p + val a < y.toNat * p + val b := by
          have : (y.toNat + 1) * p ≤ x.toNat * p := Nat.mul_le_mul_right p hgt
          rw [Nat.add_mul, Nat.one_mul] at this
          omega
        simp [h1, h2, h3]

theorem val_ge (l : List UInt8) (h : l.head? ≠ some 0) (hl : l ≠ []) : 256 ^ (l.length - 1) ≤ val l := by
  cases l with
  | nil => exact absurd rfl hl
  | cons c l =>
    rw [val_cons]
    have hc : c ≠ 0 := fun e => h (by rw [e]; rfl)
    have : 1 ≤ c.toNat := by
      rcases Nat.eq_zero_or_pos c.toNat with e | e
      · exact absurd (UInt8.toNat_inj.mp e) hc
      · exact e
    have h2 : 1 * 256 ^ l.length ≤ c.toNat * 256 ^ l.length := Nat.mul_le_mul_right _ this
    simp only [List.length_cons, Nat.add_sub_cancel]
    omega

theorem dig_len_lt (a b : Nat) (h : (dig a).length < (dig b).length) : a < b := by
  have h1 := val_lt (dig a)
  have hne : dig b ≠ [] := by intro e; rw [e] at h; simp at h
  have h2 := val_ge (dig b) (dig_head b) hne
  rw [val_dig] at h1 h2
  have h3 : 256 ^ (dig a).length ≤ 256 ^ ((dig b).length - 1) := Nat.pow_le_pow_right (by decide) (by omega)
  omega

theorem less_numB (a b : Nat) (ha : a < 18446744073709551616) (hb : b < 18446744073709551616) : Op.bytesLess (numB a) (numB b) = decide (a < b) := by
  have la := dig_len8 a ha
  have lb := dig_len8 b hb
  have ea : (UInt8.ofNat (dig a).length).toNat = (dig a).length := by rw [UInt8.toNat_ofNat']; omega
  have eb : (UInt8.ofNat (dig b).length).toNat = (dig b).length := by rw [UInt8.toNat_ofNat']; omega
  simp only [numB, Op.bytesLess]
  rcases Nat.lt_trichotomy (dig a).length (dig b).length with hlt | heq | hgt
  · have h1 : UInt8.ofNat (dig a).length < UInt8.ofNat (dig b).length := UInt8.lt_iff_toNat_lt.mpr (by omega)
    have := dig_len_lt a b hlt
    simp [h1, this]
  · have h2 : ¬ UInt8.ofNat (dig a).length < UInt8.ofNat (dig b).length := fun h => by have := UInt8.lt_iff_toNat_lt.mp h; omega
    have h3 : (UInt8.ofNat (dig a).length == UInt8.ofNat (dig b).length) = true := by rw [heq]; simp
    rw [decide_eq_false h2, h3, less_same _ _ heq, val_dig, val_dig]
    simp
  · have h1 : ¬ UInt8.ofNat (dig a).length < UInt8.ofNat (dig b).length := fun h => by have := UInt8.lt_iff_toNat_lt.mp h; omega
    have h3 : (UInt8.ofNat (dig a).length == UInt8.ofNat (dig b).length) = false := by
      rw [beq_eq_false_iff_ne]; intro e
      have := congrArg UInt8.toNat e
      omega
    have := dig_len_lt b a hgt
    have h4 : ¬ a < b := by omega
    rw [decide_eq_false h1, h3, decide_eq_false h4]; rfl

theorem numB_inj (a b : Nat) : numB a = numB b ↔ a = b := by
  constructor
  · intro h
    have h1 : dig a = dig b := by simpa [numB] using congrArg List.tail h
    have h2 := congrArg val h1
    rwa [val_dig, val_dig] at h2
  · intro h; rw [h]
end Dig
end Go.Proofs.Ytoihalkbampdnaa
