/- What is written is what is read: in plain lists. No program in sight. -/
import Derived.Test.YtdegmeclcbndgaaDoorBit
namespace Go.Proofs.YtdegmeclcbndgaaDoor
namespace Bit

theorem bw_testBit (l : List Bool) : ∀ k i, l.length ≤ k → i < k → (bw (2 ^ k / 2) l).testBit (k - 1 - i) = l.getD i false := by
  induction l with
  | nil => intro k i _ _; simp [bw]
  | cons b l ih =>
    intro k i hk hi
    simp only [List.length_cons] at hk
    cases k with
    | zero => omega
    | succ k =>
      have e : 2 ^ (k + 1) / 2 = 2 ^ k := by rw [Nat.pow_succ]; omega
      have hb := bw_bound l k (by omega)
      have hp : 1 ≤ 2 ^ k / 2 ^ l.length := (Nat.one_le_div_iff (Nat.two_pow_pos _)).mpr (Nat.pow_le_pow_right (by decide) (by omega))
      have hr : bw (2 ^ k / 2) l < 2 ^ k := by omega
      simp only [bw, e]
      have e2 : (if b = true then 2 ^ k else 0) + bw (2 ^ k / 2) l = 2 ^ k * b.toNat + bw (2 ^ k / 2) l := by cases b <;> simp
      rw [e2, Nat.testBit_two_pow_mul_add _ hr]
      cases i with
      | zero => simp; cases b <;> simp
      | succ i =>
        rw [if_pos (by omega), show k + 1 - 1 - (i + 1) = k - 1 - i from by omega, ih k i (by omega) (by omega)]
        simp

theorem byteAt_testBit (L : List Bool) (j i : Nat) (hi : i < 8) : (byteAt L j).testBit (7 - i) = L.getD (8 * j + i) false := by
  have h := bw_testBit ((L.drop (8 * j)).take 8) 8 i (by simp; omega) hi
  have e : 2 ^ 8 / 2 = 128 := by decide
  rw [e] at h
  show (bw 128 _).testBit (8 - 1 - i) = _
  rw [h, List.getD_eq_getElem?_getD, List.getD_eq_getElem?_getD, List.getElem?_take, if_pos hi, List.getElem?_drop]

theorem bitsT_pack (L : List Bool) : (bitsT (pack L)).take L.length = L := by
  apply List.ext_getElem?
  intro i
  rw [List.getElem?_take]
  by_cases h : i < L.length
  · rw [if_pos h, bitsT_get _ _ (by rw [pack_length]; omega), List.getD_eq_getElem?_getD]
    unfold pack
    rw [packN_get _ _ _ (by omega), Option.getD_some, UInt8.toNat_ofNat', Nat.mod_eq_of_lt (byteAt_lt _ _), byteAt_testBit _ _ _ (by omega), List.getD_eq_getElem?_getD,
      show 8 * (i / 8) + i % 8 = i from by omega, List.getElem?_eq_getElem h]; rfl
  · rw [if_neg h, List.getElem?_eq_none (by omega)]

theorem bitsOf_snoc (v n : Nat) : bitsOf v (n + 1) = bitsOf (v / 2) n ++ [v.testBit 0] := by
  unfold bitsOf
  rw [List.range_succ, List.map_append]
  congr 1
  · apply List.map_congr_left
    intro i hi
    have := List.mem_range.1 hi
    rw [show n + 1 - 1 - i = (n - 1 - i) + 1 from by omega, Nat.testBit_succ]
  · simp

theorem valB_bitsOf (n : Nat) : ∀ v, valB (bitsOf v n) = v % 2 ^ n := by
  induction n with
  | zero => intro v; simp [bitsOf, valB, Nat.mod_one]
  | succ n ih =>
    intro v
    rw [bitsOf_snoc, valB_snoc, ih, Nat.pow_succ, Nat.mul_comm (2 ^ n) 2, Nat.mod_mul]
    have : (if v.testBit 0 = true then 1 else 0) = v % 2 := by
      rw [Nat.testBit_zero]
      by_cases h : v % 2 = 1
      · simp [h]
      · simp [h]; omega
    omega

theorem pack_bitsT (s : List UInt8) : pack (bitsT s) = s := by
  apply List.ext_getElem?
  intro j
  have hl : (pack (bitsT s)).length = s.length := by rw [pack_length, bitsT_length]; omega
  by_cases h : j < s.length
  · unfold pack
    rw [packN_get _ _ _ (by rw [bitsT_length]; omega), List.getElem?_eq_getElem h]
    congr 1
    apply UInt8.toNat_inj.mp
    rw [UInt8.toNat_ofNat', Nat.mod_eq_of_lt (byteAt_lt _ _)]
    apply Nat.eq_of_testBit_eq
    intro i
    by_cases hi : i < 8
    · have := byteAt_testBit (bitsT s) j (7 - i) (by omega)
      rw [show 7 - (7 - i) = i from by omega] at this
      rw [this, List.getD_eq_getElem?_getD, bitsT_get _ _ (by omega), Option.getD_some, show (8 * j + (7 - i)) / 8 = j from by omega, show 7 - (8 * j + (7 - i)) % 8 = i from by omega,
        List.getD_eq_getElem?_getD, List.getElem?_eq_getElem h]; rfl
    · have h1 : 2 ^ 8 ≤ 2 ^ i := Nat.pow_le_pow_right (by decide) (by omega)
      have h2 := byteAt_lt (bitsT s) j
      have h3 := s[j].toNat_lt
      rw [Nat.testBit_lt_two_pow (by omega), Nat.testBit_lt_two_pow (by omega)]
  · rw [List.getElem?_eq_none (by omega), List.getElem?_eq_none (by omega)]

theorem bitsT_snoc (s : List UInt8) (b : UInt8) : bitsT (s ++ [b]) = bitsT s ++ bitsOf b.toNat 8 := by
  apply List.ext_getElem?
  intro i
  rw [List.getElem?_append, bitsT_length]
  by_cases h : i < 8 * s.length
  · rw [if_pos h, bitsT_get _ _ h, bitsT_get _ _ (by rw [List.length_append]; omega), List.getD_eq_getElem?_getD, List.getElem?_append_left (by omega), ← List.getD_eq_getElem?_getD]
  · rw [if_neg h]
    by_cases h2 : i < 8 * s.length + 8
    · rw [bitsT_get _ _ (by rw [List.length_append, List.length_singleton]; omega), bitsOf_get _ _ _ (by omega), List.getD_eq_getElem?_getD, List.getElem?_append_right (by omega),
        show i / 8 - s.length = 0 from by omega, show 7 - i % 8 = 8 - 1 - (i - 8 * s.length) from by omega]; rfl
    · rw [List.getElem?_eq_none (by rw [bitsT_length, List.length_append, List.length_singleton]; omega), List.getElem?_eq_none (by rw [bitsOf_length]; omega)]

theorem bitsT_nil : bitsT [] = [] := rfl

theorem bw_bitsOf (n : Nat) : ∀ v k, n ≤ k → bw (2 ^ k / 2) (bitsOf v n) = v % 2 ^ n * 2 ^ (k - n) := by
  induction n with
  | zero => intro v k _; simp [bitsOf, bw, Nat.mod_one]
  | succ n ih =>
    intro v k hk
    rw [bitsOf_snoc, bw_append, ih _ _ (by omega), bitsOf_length]
    obtain ⟨d, rfl⟩ : ∃ d, k = n + 1 + d := ⟨k - (n + 1), by omega⟩
    have e1 : 2 ^ (n + 1 + d) / 2 / 2 ^ n = 2 ^ d := by
      rw [show n + 1 + d = d + n + 1 from by omega, Nat.pow_succ, Nat.mul_div_cancel _ (by decide), Nat.pow_add, Nat.mul_div_cancel _ (Nat.two_pow_pos _)]
    rw [e1, show n + 1 + d - n = d + 1 from by omega, show n + 1 + d - (n + 1) = d from by omega, Nat.pow_succ 2 n, Nat.mul_comm (2 ^ n) 2, Nat.mod_mul]
    have h2 : (if v.testBit 0 = true then 2 ^ d else 0) = v % 2 * 2 ^ d := by
      rw [Nat.testBit_zero]
      by_cases h : v % 2 = 1
      · simp [h]
      · have : v % 2 = 0 := by omega
        simp [this]
    rw [h2, Nat.pow_succ, Nat.add_mul]
    generalize v / 2 % 2 ^ n = a
    rw [show a * (2 ^ d * 2) = 2 * a * 2 ^ d from by rw [Nat.mul_comm 2 a, Nat.mul_assoc a 2, Nat.mul_comm 2 (2 ^ d)]]
    omega

theorem pack_tail (l : List UInt8) (t : List Bool) (h1 : 1 ≤ t.length) (h8 : t.length ≤ 8) : pack (bitsT l ++ t) = l ++ [UInt8.ofNat (bw 128 t)] := by
  apply List.ext_getElem?
  intro j
  have hm : ((bitsT l ++ t).length + 7) / 8 = l.length + 1 := by rw [List.length_append, bitsT_length]; omega
  unfold pack
  rw [hm]
  by_cases h : j < l.length
  · rw [packN_get _ _ _ (by omega), List.getElem?_append_left h]
    have hp := congrArg (fun x => x[j]?) (pack_bitsT l)
    unfold pack at hp
    rw [packN_get _ _ _ (by rw [bitsT_length]; omega)] at hp
    rw [← hp]
    congr 2
    unfold byteAt
    rw [List.drop_append_of_le_length (by rw [bitsT_length]; omega), List.take_append_of_le_length (by rw [List.length_drop, bitsT_length]; omega)]
  · by_cases he : j = l.length
    · subst he
      rw [packN_get _ _ _ (by omega), List.getElem?_append_right (Nat.le_refl _), Nat.sub_self]
      congr 2
      unfold byteAt
      have e : 8 * l.length = (bitsT l).length := (bitsT_length l).symm
      rw [e, List.drop_append_of_le_length (Nat.le_refl _), List.drop_length, List.nil_append, List.take_of_length_le h8]
    · rw [List.getElem?_eq_none (by rw [packN_length]; omega), List.getElem?_eq_none (by rw [List.length_append, List.length_singleton]; omega)]

/-- The bits of the first so many numbers. -/
def bitsZ (cnt : Int → Nat) (zs : List (Int × Int)) (j : Nat) : List Bool := ((zs.take j).map fun z => bitsOf z.1.toNat (cnt z.2)).flatten
theorem bitsZ_zero (cnt : Int → Nat) (zs : List (Int × Int)) : bitsZ cnt zs 0 = [] := by simp [bitsZ]
theorem bitsZ_succ (cnt : Int → Nat) (zs : List (Int × Int)) (j : Nat) (z : Int × Int) (h : zs[j]? = some z) : bitsZ cnt zs (j + 1) = bitsZ cnt zs j ++ bitsOf z.1.toNat (cnt z.2) := by
  unfold bitsZ
  rw [List.take_add_one, h]
  simp
theorem bitsZ_pre (cnt : Int → Nat) (zs : List (Int × Int)) (j M : Nat) (h : j ≤ M) : ∃ r, bitsZ cnt zs M = bitsZ cnt zs j ++ r := by
  refine ⟨(((zs.take M).drop j).map fun z => bitsOf z.1.toNat (cnt z.2)).flatten, ?_⟩
  have e : zs.take j = (zs.take M).take j := by rw [List.take_take]; congr 1; omega
  unfold bitsZ
  rw [e, ← List.flatten_append, ← List.map_append, List.take_append_drop]

theorem bitsZ_read (cnt : Int → Nat) (zs : List (Int × Int)) (j M : Nat) (z : Int × Int) (h : zs[j]? = some z) (hj : j < M) :
    (bitsZ cnt zs j).length + cnt z.2 ≤ (bitsZ cnt zs M).length ∧ valB (((bitsT (pack (bitsZ cnt zs M))).drop (bitsZ cnt zs j).length).take (cnt z.2)) = z.1.toNat % 2 ^ cnt z.2 := by
  obtain ⟨r, hr⟩ := bitsZ_pre cnt zs (j + 1) M hj
  have hs := bitsZ_succ cnt zs j z h
  rw [hs] at hr
  have hle : (bitsZ cnt zs j).length + cnt z.2 ≤ (bitsZ cnt zs M).length := by rw [hr, List.length_append, List.length_append, bitsOf_length]; omega
  refine ⟨hle, ?_⟩
  have hp := bitsT_pack (bitsZ cnt zs M)
  have e1 : ((bitsT (pack (bitsZ cnt zs M))).drop (bitsZ cnt zs j).length).take (cnt z.2) = ((bitsZ cnt zs M).drop (bitsZ cnt zs j).length).take (cnt z.2) := by
    conv => rhs; rw [← hp]
    rw [List.drop_take, List.take_take]; congr 1; omega
  rw [e1, hr, List.append_assoc, List.drop_append_of_le_length (Nat.le_refl _), List.drop_length, List.nil_append, List.take_append_of_le_length (by rw [bitsOf_length]; exact Nat.le_refl _), List.take_of_length_le (by rw [bitsOf_length]; exact Nat.le_refl _), valB_bitsOf]
end Bit
end Go.Proofs.YtdegmeclcbndgaaDoor
