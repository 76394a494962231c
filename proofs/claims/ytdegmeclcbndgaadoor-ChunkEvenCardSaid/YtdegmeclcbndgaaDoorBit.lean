/- Texts bit by bit, in plain lists. No program in sight. -/
import Derived.Laws.BitsLemmas
namespace Go.Proofs.YtdegmeclcbndgaaDoor
namespace Bit

/-- Bits with weights. -/
def bw : Nat → List Bool → Nat
  | _, [] => 0
  | w, b :: l => (if b then w else 0) + bw (w / 2) l

theorem bw_append (l : List Bool) (b : Bool) : ∀ w, bw w (l ++ [b]) = bw w l + (if b then w / 2 ^ l.length else 0) := by
  induction l with
  | nil => intro w; simp [bw]
  | cons c l ih =>
    intro w
    simp only [List.cons_append, bw, ih, List.length_cons]
    rw [Nat.div_div_eq_div_mul, show 2 * 2 ^ l.length = 2 ^ (l.length + 1) from by rw [Nat.pow_succ]; omega]
    omega

/-- The byte number j of bits. -/
def byteAt (L : List Bool) (j : Nat) : Nat := bw 128 ((L.drop (8 * j)).take 8)
/-- So many bytes of bits, with noughts behind. -/
def packN (m : Nat) (L : List Bool) : List UInt8 := (List.range m).map fun j => UInt8.ofNat (byteAt L j)
def pack (L : List Bool) : List UInt8 := packN ((L.length + 7) / 8) L

theorem packN_length (m : Nat) (L : List Bool) : (packN m L).length = m := by simp [packN]
theorem pack_length (L : List Bool) : (pack L).length = (L.length + 7) / 8 := packN_length _ _
theorem packN_get (m : Nat) (L : List Bool) (j : Nat) (h : j < m) : (packN m L)[j]? = some (UInt8.ofNat (byteAt L j)) := by
  simp [packN, h]

theorem byteAt_out (L : List Bool) (j : Nat) (h : L.length ≤ 8 * j) : byteAt L j = 0 := by
  unfold byteAt; rw [List.drop_eq_nil_of_le h]; rfl

theorem byteAt_snoc (L : List Bool) (b : Bool) (j : Nat) : byteAt (L ++ [b]) j = byteAt L j + (if j = L.length / 8 then (if b then 128 / 2 ^ (L.length % 8) else 0) else 0) := by
  unfold byteAt
  by_cases h1 : 8 * j ≤ L.length
  · rw [List.drop_append_of_le_length h1]
    by_cases h2 : L.length - 8 * j < 8
    · have hj : j = L.length / 8 := by omega
      have hl : (L.drop (8 * j)).length = L.length % 8 := by rw [List.length_drop]; omega
      rw [List.take_append, List.take_of_length_le (by omega), List.take_of_length_le (by rw [hl]; simp; omega), bw_append, hl, if_pos hj]
    · have hj : ¬ j = L.length / 8 := by omega
      rw [List.take_append_of_le_length (by rw [List.length_drop]; omega), if_neg hj]; rfl
  · have hj : ¬ j = L.length / 8 := by omega
    rw [List.drop_eq_nil_of_le (by simp; omega), List.drop_eq_nil_of_le (by omega), if_neg hj]; rfl

theorem bw_bound (l : List Bool) : ∀ k, l.length ≤ k → bw (2 ^ k / 2) l + 2 ^ k / 2 ^ l.length ≤ 2 ^ k := by
  induction l with
  | nil => intro k _; simp [bw]
  | cons b l ih =>
    intro k hk
    simp only [List.length_cons] at hk
    cases k with
    | zero => omega
    | succ k =>
      have := ih k (by omega)
      have e : 2 ^ (k + 1) / 2 = 2 ^ k := by rw [Nat.pow_succ]; omega
      have e2 : 2 ^ (k + 1) / 2 ^ (l.length + 1) = 2 ^ k / 2 ^ l.length := by rw [Nat.pow_succ, Nat.pow_succ, Nat.mul_div_mul_right _ _ (by decide)]
      have h2 : 2 ^ (k + 1) = 2 ^ k + 2 ^ k := by rw [Nat.pow_succ]; omega
      simp only [bw, List.length_cons]
      rw [e, e2, h2]
      have hp := Nat.two_pow_pos k
      clear e e2 h2
      generalize 2 ^ k / 2 ^ l.length = g at this ⊢
      generalize bw (2 ^ k / 2) l = d at this ⊢
      generalize 2 ^ k = f at this hp ⊢
      split <;> omega

theorem bw_mod (l : List Bool) : ∀ k, l.length ≤ k → bw (2 ^ k / 2) l % 2 ^ (k - l.length) = 0 := by
  induction l with
  | nil => intro k _; simp [bw]
  | cons b l ih =>
    intro k hk
    simp only [List.length_cons] at hk
    cases k with
    | zero => omega
    | succ k =>
      have := ih k (by omega)
      have e : 2 ^ (k + 1) / 2 = 2 ^ k := by rw [Nat.pow_succ]; omega
      simp only [bw, List.length_cons, e, Nat.add_sub_add_right]
      have hd : 2 ^ (k - l.length) ∣ 2 ^ k := Nat.pow_dvd_pow 2 (by omega)
      have hd2 : 2 ^ (k - l.length) ∣ bw (2 ^ k / 2) l := Nat.dvd_of_mod_eq_zero this
      apply Nat.mod_eq_zero_of_dvd
      split
      · exact Nat.dvd_add hd hd2
      · simpa using hd2

theorem byteAt_lt (L : List Bool) (j : Nat) : byteAt L j < 256 := by
  have hl : ((L.drop (8 * j)).take 8).length ≤ 8 := by simp; omega
  have h := bw_bound ((L.drop (8 * j)).take 8) 8 hl
  have hp : 1 ≤ 2 ^ 8 / 2 ^ ((L.drop (8 * j)).take 8).length := by
    have : 2 ^ ((L.drop (8 * j)).take 8).length ≤ 2 ^ 8 := Nat.pow_le_pow_right (by decide) hl
    exact (Nat.one_le_div_iff (Nat.two_pow_pos _)).mpr this
  show bw 128 _ < 256
  have e : (2 ^ 8 / 2 : Nat) = 128 := by decide
  rw [e] at h
  omega

theorem byteAt_low (L : List Bool) : byteAt L (L.length / 8) % 2 ^ (8 - L.length % 8) = 0 := by
  have hl : ((L.drop (8 * (L.length / 8))).take 8).length = L.length % 8 := by simp; omega
  have h := bw_mod ((L.drop (8 * (L.length / 8))).take 8) 8 (by omega)
  rw [hl] at h
  exact h

/-- One bit more, where there is a byte for it. -/
theorem packN_snoc (m : Nat) (L : List Bool) (b : Bool) (h : L.length / 8 < m) (x : UInt8)
    (hx : x.toNat = byteAt L (L.length / 8) + (if b then 128 / 2 ^ (L.length % 8) else 0)) : packN m (L ++ [b]) = (packN m L).set (L.length / 8) x := by
  apply List.ext_getElem?
  intro j
  rw [List.getElem?_set, packN_length]
  by_cases hj : j < m
  · rw [packN_get _ _ _ hj, packN_get _ _ _ hj, byteAt_snoc]
    by_cases he : L.length / 8 = j
    · rw [if_pos he, if_pos he.symm, if_pos h, ← he, ← hx]
      congr 1
      apply UInt8.toNat_inj.mp
      rw [UInt8.toNat_ofNat']
      have := x.toNat_lt
      omega
    · rw [if_neg he, if_neg (fun e => he e.symm), Nat.add_zero]
  · rw [List.getElem?_eq_none (by rw [packN_length]; omega), List.getElem?_eq_none (by rw [packN_length]; omega)]
    split
    · omega
    · rfl

theorem packN_more (L : List Bool) (h : L.length % 8 = 0) : packN (L.length / 8 + 1) L = packN ((L.length + 7) / 8) L ++ [0] := by
  have e : (L.length + 7) / 8 = L.length / 8 := by omega
  rw [e]
  unfold packN
  rw [List.range_succ, List.map_append]
  simp only [List.map_cons, List.map_nil]
  rw [byteAt_out L _ (by omega)]; rfl

/-- The lowest n bits of a number, the highest of them first. -/
def bitsOf (v : Nat) (n : Nat) : List Bool := (List.range n).map fun i => v.testBit (n - 1 - i)
theorem bitsOf_length (v n : Nat) : (bitsOf v n).length = n := by simp [bitsOf]
theorem bitsOf_get (v n i : Nat) (h : i < n) : (bitsOf v n)[i]? = some (v.testBit (n - 1 - i)) := by simp [bitsOf, h]
theorem bitsOf_take (v n i : Nat) (h : i < n) : (bitsOf v n).take (i + 1) = (bitsOf v n).take i ++ [v.testBit (n - 1 - i)] := by
  rw [List.take_add_one, bitsOf_get v n i h]; rfl

/-- The number of bits, the highest first. -/
def valB (l : List Bool) : Nat := l.foldl (fun v b => 2 * v + (if b then 1 else 0)) 0
theorem valB_snoc (l : List Bool) (b : Bool) : valB (l ++ [b]) = 2 * valB l + (if b then 1 else 0) := by simp [valB]
theorem valB_nil : valB [] = 0 := rfl

/-- A text's bits. -/
def bitsT (s : List UInt8) : List Bool := (List.range (8 * s.length)).map fun i => ((s.getD (i / 8) 0).toNat).testBit (7 - i % 8)
theorem bitsT_length (s : List UInt8) : (bitsT s).length = 8 * s.length := by simp [bitsT]
theorem bitsT_get (s : List UInt8) (i : Nat) (h : i < 8 * s.length) : (bitsT s)[i]? = some (((s.getD (i / 8) 0).toNat).testBit (7 - i % 8)) := by simp [bitsT, h]
end Bit
end Go.Proofs.YtdegmeclcbndgaaDoor
