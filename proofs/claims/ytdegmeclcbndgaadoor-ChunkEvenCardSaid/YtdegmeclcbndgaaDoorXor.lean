/- Patterns in bits, in plain lists and numbers. No program in sight. -/
import Derived.Test.YtdegmeclcbndgaaDoorTimP
import Derived.Lib.TrailingZeros
import Derived.Lib.BitFns
namespace Go.Proofs.YtdegmeclcbndgaaDoor
open Go.RowKit
namespace Xo
open Bit

/-- Bits 0 in front, at most 31; bits 0 at the end. -/
def ld (d : Nat) : Nat := min (64 - Lib.bitLen d) 31
def tl (d : Nat) : Nat := Lib.ctz 64 d

theorem ld_le (d : Nat) : ld d ≤ 31 := by unfold ld; omega

theorem aux_lt : ∀ f x, x < 2 ^ f → x < 2 ^ Lib.bitLenAux f x := by
  intro f
  induction f with
  | zero => intro x h; simpa [Lib.bitLenAux] using h
  | succ f ih =>
    intro x h
    unfold Lib.bitLenAux
    split
    · rename_i h0; simp [h0]
    · have := ih (x / 2) (by rw [Nat.pow_succ] at h; omega)
      rw [Nat.add_comm 1, Nat.pow_succ]; omega
theorem aux_ge : ∀ f x, 0 < x → x < 2 ^ f → 2 ^ Lib.bitLenAux f x ≤ 2 * x ∧ 1 ≤ Lib.bitLenAux f x ∧ Lib.bitLenAux f x ≤ f := by
  intro f
  induction f with
  | zero => intro x h0 h; simp at h; omega
  | succ f ih =>
    intro x h0 h
    unfold Lib.bitLenAux
    rw [if_neg (by omega)]
    by_cases h1 : x / 2 = 0
    · have e : Lib.bitLenAux f (x / 2) = 0 := by rw [h1]; cases f <;> simp [Lib.bitLenAux]
      rw [e]; simp; omega
    · have := ih (x / 2) (by omega) (by rw [Nat.pow_succ] at h; omega)
      rw [Nat.add_comm 1, Nat.pow_succ]; omega
theorem ld_hi (d : Nat) (h : d < 18446744073709551616) : d < 2 ^ (64 - ld d) := by
  have h1 := aux_lt 64 d h
  have h2 : Lib.bitLenAux 64 d = Lib.bitLen d := rfl
  rw [h2] at h1
  have h3 : 2 ^ Lib.bitLen d ≤ 2 ^ (64 - ld d) := by
    refine Nat.pow_le_pow_right (by decide) ?_
    have : Lib.bitLen d ≤ 64 := by
      by_cases hd : d = 0
      · subst hd; decide
      · exact (aux_ge 64 d (by omega) h).2.2
    unfold ld; omega
  omega
theorem tl_spec (d : Nat) (h0 : 0 < d) (h : d < 18446744073709551616) : ∃ m, d = 2 ^ tl d * (2 * m + 1) ∧ tl d < 64 := by
  have := Lib.ctzFrom_spec 64 d h0 h
  have e : tl d = Lib.ctzFrom 64 d := by unfold tl Lib.ctz; rw [if_neg (by omega)]
  rw [e]; exact this
theorem tl_dvd (d : Nat) (h0 : 0 < d) (h : d < 18446744073709551616) : d / 2 ^ tl d * 2 ^ tl d = d ∧ 0 < d / 2 ^ tl d := by
  obtain ⟨m, hm, _⟩ := tl_spec d h0 h
  generalize tl d = t at hm
  have hp := Nat.two_pow_pos t
  subst hm
  rw [Nat.mul_div_cancel_left _ hp]
  exact ⟨Nat.mul_comm _ _, by omega⟩
theorem pow_lt_of {a b : Nat} (h : 2 ^ a < 2 ^ b) : a < b := by
  rcases Nat.lt_or_ge a b with h1 | h1
  · exact h1
  · have := Nat.pow_le_pow_right (n := 2) (by decide) h1; omega
theorem ld_tl (d : Nat) (h0 : 0 < d) (h : d < 18446744073709551616) : ld d + tl d ≤ 63 := by
  obtain ⟨m, hm, _⟩ := tl_spec d h0 h
  have h1 := ld_hi d h
  have h2 : 2 ^ tl d ≤ d := by
    conv => rhs; rw [hm]
    exact Nat.le_mul_of_pos_right _ (by omega)
  have := pow_lt_of (Nat.lt_of_le_of_lt h2 h1)
  have := ld_le d
  omega
/-- A multiple of a power of two has as many bits 0 at its end. -/
theorem tl_ge (x t : Nat) (h0 : 0 < x) (h : x * 2 ^ t < 18446744073709551616) : t ≤ tl (x * 2 ^ t) := by
  have hp := Nat.two_pow_pos t
  obtain ⟨m, hm, _⟩ := tl_spec (x * 2 ^ t) (Nat.mul_pos h0 hp) h
  generalize tl (x * 2 ^ t) = s at hm
  rcases Nat.lt_or_ge s t with h1 | h1
  · exfalso
    obtain ⟨k, rfl⟩ : ∃ k, t = s + 1 + k := ⟨t - s - 1, by omega⟩
    have e : x * 2 ^ (s + 1 + k) = 2 ^ s * (2 * (x * 2 ^ k)) := by
      rw [Nat.pow_add, Nat.pow_succ]
      simp only [Nat.mul_comm, Nat.mul_left_comm, Nat.mul_assoc]
    rw [e] at hm
    have := Nat.eq_of_mul_eq_mul_left (Nat.two_pow_pos s) hm
    omega
  · exact h1
/-- A number below a power of two has bits 0 in front. -/
theorem ld_ge (d l : Nat) (hl : l ≤ 31) (h0 : 0 < d) (h : d < 2 ^ (64 - l)) : l ≤ ld d := by
  have h64 : d < 2 ^ 64 := Nat.lt_of_lt_of_le h (Nat.pow_le_pow_right (by decide) (by omega))
  have h1 := (aux_ge 64 d h0 h64).1
  have h2 : Lib.bitLenAux 64 d = Lib.bitLen d := rfl
  rw [h2] at h1
  have h3 : 2 ^ Lib.bitLen d < 2 ^ (65 - l) := by
    have e : 65 - l = (64 - l) + 1 := by omega
    rw [e, Nat.pow_succ]; omega
  have := pow_lt_of h3
  unfold ld; omega

/-- The coder: begun, the pattern ahead, whether there is a window, and the window. -/
structure XS where
  b : Bool
  v : Nat
  is : Bool
  l : Nat
  t : Nat
def XS.zero : XS := ⟨false, 0, false, 0, 0⟩

def XOk (s : XS) : Prop := s.v < 18446744073709551616 ∧ s.l + s.t ≤ 63 ∧ s.l ≤ 31
theorem XOk.zero : XOk XS.zero := by simp [XOk, XS.zero]

def Fits (s : XS) (d : Nat) : Prop := s.is = true ∧ s.l ≤ ld d ∧ s.t ≤ tl d
instance (s : XS) (d : Nat) : Decidable (Fits s d) := by unfold Fits; infer_instance

/-- The bits of a difference, behind the first one. -/
def encIn (s : XS) (d : Nat) : List Bool := bitsOf 2 2 ++ bitsOf (d / 2 ^ s.t) (64 - s.l - s.t)
def encNew (d : Nat) : List Bool := bitsOf 3 2 ++ (bitsOf (ld d) 5 ++ (bitsOf (63 - ld d - tl d) 6 ++ bitsOf (d / 2 ^ tl d) (64 - ld d - tl d)))
def encD (s : XS) (d : Nat) : List Bool := if d = 0 then bitsOf 0 1 else if Fits s d then encIn s d else encNew d
def encV (s : XS) (v : Nat) : List Bool := if s.b then encD s (v ^^^ s.v) else bitsOf v 64
def XS.next (s : XS) (v : Nat) : XS :=
  if s.b = true ∧ v ^^^ s.v ≠ 0 ∧ ¬ Fits s (v ^^^ s.v) then ⟨true, v, true, ld (v ^^^ s.v), tl (v ^^^ s.v)⟩ else ⟨true, v, s.is, s.l, s.t⟩

theorem xor_lt {a b : Nat} (ha : a < 18446744073709551616) (hb : b < 18446744073709551616) : a ^^^ b < 18446744073709551616 := Nat.xor_lt_two_pow (n := 64) ha hb
theorem XOk.next {s : XS} (h : XOk s) {v : Nat} (hv : v < 18446744073709551616) : XOk (s.next v) := by
  obtain ⟨h1, h2, h3⟩ := h
  unfold XS.next
  split
  · rename_i hc
    exact ⟨hv, ld_tl _ (by omega) (xor_lt hv h1), ld_le _⟩
  · exact ⟨hv, h2, h3⟩
theorem encD_len (s : XS) (d : Nat) : (encD s d).length ≤ 77 := by
  unfold encD encIn encNew
  split
  · simp [bitsOf_length]
  · split <;> simp only [List.length_append, bitsOf_length] <;> omega
theorem encV_len (s : XS) (v : Nat) : (encV s v).length ≤ 77 := by
  unfold encV; split
  · exact encD_len _ _
  · rw [bitsOf_length]; omega
theorem encV_pos (s : XS) (v : Nat) : 0 < (encV s v).length := by
  unfold encV; split
  · unfold encD encIn encNew
    split
    · simp [bitsOf_length]
    · split <;> simp only [List.length_append, bitsOf_length] <;> omega
  · rw [bitsOf_length]; omega

/-- What the next bits would be, if the writer wrote them: the difference, and how many bits. -/
def guessD (s : XS) : List Bool → Option (Nat × Nat)
  | [] => none
  | false :: _ => some (0, 1)
  | true :: [] => none
  | true :: false :: R => if s.is = true ∧ 64 - s.l - s.t ≤ R.length then some (valB (R.take (64 - s.l - s.t)) * 2 ^ s.t, 2 + (64 - s.l - s.t)) else none
  | true :: true :: R => if 11 ≤ R.length ∧ valB (R.take 5) + valB ((R.drop 5).take 6) ≤ 63 ∧ valB ((R.drop 5).take 6) + 1 ≤ (R.drop 11).length then
      some (valB ((R.drop 11).take (valB ((R.drop 5).take 6) + 1)) * 2 ^ (63 - valB (R.take 5) - valB ((R.drop 5).take 6)), 14 + valB ((R.drop 5).take 6)) else none
def guess (s : XS) (B : List Bool) : Option (Nat × Nat) :=
  if s.b then (match guessD s B with | none => none | some (d, n) => some (s.v ^^^ d, n)) else if 64 ≤ B.length then some (valB (B.take 64), 64) else none
def getV (s : XS) (B : List Bool) : Option (Nat × Nat) :=
  match guess s B with
  | none => none
  | some (v, n) => if encV s v = B.take n then some (v, n) else none

theorem xor_back (a d : Nat) : (a ^^^ d) ^^^ a = d := by
  rw [Nat.xor_comm a d, Nat.xor_assoc, Nat.xor_self, Nat.xor_zero]
theorem xor_back2 (a v : Nat) : a ^^^ (v ^^^ a) = v := by
  rw [Nat.xor_comm v a, ← Nat.xor_assoc, Nat.xor_self, Nat.zero_xor]

theorem guessD_len {s : XS} {B : List Bool} {d n : Nat} (h : guessD s B = some (d, n)) : n ≤ B.length := by
  unfold guessD at h
  split at h
  · cases h
  · cases h; simp
  · cases h
  · split at h
    · cases h; simp only [List.length_cons]; omega
    · cases h
  · split at h
    · rename_i hc
      cases h; simp only [List.length_cons]; rw [List.length_drop] at hc; omega
    · cases h
theorem guess_len {s : XS} {B : List Bool} {v n : Nat} (h : guess s B = some (v, n)) : n ≤ B.length := by
  unfold guess at h
  split at h
  · cases hg : guessD s B with
    | none => rw [hg] at h; cases h
    | some y => obtain ⟨d, m⟩ := y; rw [hg] at h; cases h; exact guessD_len hg
  · split at h
    · cases h; assumption
    · cases h
theorem getV_len {s : XS} {B : List Bool} {v n : Nat} (h : getV s B = some (v, n)) : n ≤ B.length := by
  unfold getV at h
  cases hg : guess s B with
  | none => rw [hg] at h; cases h
  | some y =>
    obtain ⟨v', m⟩ := y
    rw [hg] at h
    simp only at h
    split at h
    · cases h; exact guess_len hg
    · cases h

theorem b2 : bitsOf 2 2 = [true, false] := by decide
theorem b3 : bitsOf 3 2 = [true, true] := by decide

theorem take_bits (x n : Nat) (R : List Bool) (h : x < 2 ^ n) : valB ((bitsOf x n ++ R).take n) = x := by
  rw [List.take_append_of_le_length (by rw [bitsOf_length]; exact Nat.le_refl _), List.take_of_length_le (by rw [bitsOf_length]; exact Nat.le_refl _), valB_bitsOf, Nat.mod_eq_of_lt h]
theorem drop_bits (x n : Nat) (R : List Bool) : (bitsOf x n ++ R).drop n = R := by
  have : (bitsOf x n).length = n := bitsOf_length _ _
  conv => lhs; arg 1; rw [← this]
  rw [List.drop_append_of_le_length (Nat.le_refl _), List.drop_length, List.nil_append]

theorem div_lt_pow {d a t : Nat} (h : d < 2 ^ a) (ht : t ≤ a) : d / 2 ^ t < 2 ^ (a - t) := by
  rw [Nat.div_lt_iff_lt_mul (Nat.two_pow_pos t), ← Nat.pow_add, Nat.sub_add_cancel ht]; exact h
theorem mul_lt_pow {x a t : Nat} (h : x < 2 ^ a) : x * 2 ^ t < 2 ^ (a + t) := by
  rw [Nat.pow_add]; exact (Nat.mul_lt_mul_right (Nat.two_pow_pos t)).mpr h

theorem div_mul_of_dvd {d s t : Nat} (h : d / 2 ^ t * 2 ^ t = d) (hs : s ≤ t) : d / 2 ^ s * 2 ^ s = d := by
  have h1 : 2 ^ s ∣ d := Nat.dvd_trans (Nat.pow_dvd_pow 2 hs) ⟨d / 2 ^ t, by rw [Nat.mul_comm]; exact h.symm⟩
  exact Nat.div_mul_cancel h1

theorem guessD_enc (s : XS) (hg : XOk s) (d : Nat) (hd : d < 18446744073709551616) (R : List Bool) : guessD s (encD s d ++ R) = some (d, (encD s d).length) := by
  obtain ⟨g1, g2, g3⟩ := hg
  unfold encD
  split
  · rename_i h0
    have : bitsOf 0 1 = [false] := by decide
    subst h0
    rw [this]; rfl
  · rename_i h0
    have hd0 : 0 < d := by omega
    have hv := tl_dvd d hd0 hd
    have hhi := ld_hi d hd
    have hlt := ld_tl d hd0 hd
    split
    · rename_i hf
      obtain ⟨f1, f2, f3⟩ := hf
      unfold encIn
      have hx : d / 2 ^ s.t < 2 ^ (64 - s.l - s.t) := by
        have : d < 2 ^ (64 - s.l) := Nat.lt_of_lt_of_le hhi (Nat.pow_le_pow_right (by decide) (by omega))
        exact div_lt_pow this (by omega)
      rw [b2]
      simp only [List.cons_append, List.nil_append, guessD]
      rw [if_pos ⟨f1, by rw [List.length_append, bitsOf_length]; omega⟩, take_bits _ _ _ hx, div_mul_of_dvd hv.1 f3]
      simp only [List.length_cons, bitsOf_length]
      congr 2; omega
    · unfold encNew
      have hl5 : ld d < 2 ^ 5 := by have := ld_le d; show ld d < 32; omega
      have hq6 : 63 - ld d - tl d < 2 ^ 6 := by show _ < 64; omega
      have hx : d / 2 ^ tl d < 2 ^ (64 - ld d - tl d) := div_lt_pow hhi (by omega)
      have hlen5 : (bitsOf (ld d) 5).length = 5 := bitsOf_length _ _
      rw [b3]
      simp only [List.cons_append, List.nil_append, guessD, List.append_assoc]
      have e1 := take_bits (ld d) 5 (bitsOf (63 - ld d - tl d) 6 ++ (bitsOf (d / 2 ^ tl d) (64 - ld d - tl d) ++ R)) hl5
      have e2 := drop_bits (ld d) 5 (bitsOf (63 - ld d - tl d) 6 ++ (bitsOf (d / 2 ^ tl d) (64 - ld d - tl d) ++ R))
      have e3 := take_bits (63 - ld d - tl d) 6 (bitsOf (d / 2 ^ tl d) (64 - ld d - tl d) ++ R) hq6
      have e4 : (bitsOf (ld d) 5 ++ (bitsOf (63 - ld d - tl d) 6 ++ (bitsOf (d / 2 ^ tl d) (64 - ld d - tl d) ++ R))).drop 11 = bitsOf (d / 2 ^ tl d) (64 - ld d - tl d) ++ R := by
        rw [show 11 = 5 + 6 from rfl, ← List.drop_drop, e2, drop_bits]
      rw [e1, e2, e3, e4]
      have en : 63 - ld d - tl d + 1 = 64 - ld d - tl d := by omega
      rw [en]
      have et : 63 - ld d - (63 - ld d - tl d) = tl d := by omega
      rw [if_pos ⟨by simp only [List.length_append, bitsOf_length]; omega, by omega, by simp only [List.length_append, bitsOf_length]; omega⟩, take_bits _ _ _ hx, et, hv.1]
      simp only [List.length_cons, List.length_append, bitsOf_length]
      congr 2; omega

theorem guess_enc (s : XS) (hg : XOk s) (v : Nat) (hv : v < 18446744073709551616) (R : List Bool) : guess s (encV s v ++ R) = some (v, (encV s v).length) := by
  unfold guess encV
  split
  · rw [guessD_enc s hg _ (xor_lt hv hg.1) R]
    simp only [xor_back2]
  · rw [if_pos (by rw [List.length_append, bitsOf_length]; omega), take_bits v 64 R hv, bitsOf_length]
theorem getV_enc (s : XS) (hg : XOk s) (v : Nat) (hv : v < 18446744073709551616) (R : List Bool) : getV s (encV s v ++ R) = some (v, (encV s v).length) := by
  unfold getV
  rw [guess_enc s hg v hv R]
  simp only
  rw [if_pos]
  rw [List.take_append_of_le_length (Nat.le_refl _), List.take_of_length_le (Nat.le_refl _)]
theorem getV_nil (s : XS) : getV s [] = none := by
  unfold getV guess
  split <;> simp_all [guessD]

/-- When what is read is what would be written: inside the window. -/
theorem in_ok (s : XS) (hg : XOk s) (hb : s.b = true) (hs : s.is = true) (l : List Bool) (hl : l.length = 64 - s.l - s.t) :
    encV s (s.v ^^^ (valB l * 2 ^ s.t)) = true :: false :: l ↔ valB l * 2 ^ s.t ≠ 0 := by
  obtain ⟨g1, g2, g3⟩ := hg
  have hv := valB_lt l
  rw [hl] at hv
  have hd := mul_lt_pow (t := s.t) hv
  rw [show 64 - s.l - s.t + s.t = 64 - s.l from by omega] at hd
  unfold encV
  rw [if_pos hb, xor_back]
  unfold encD
  constructor
  · intro h h0
    rw [if_pos h0] at h
    have := congrArg List.length h
    rw [bitsOf_length] at this; simp at this
  · intro h0
    rw [if_neg h0]
    have hx0 : 0 < valB l := by
      rcases Nat.eq_zero_or_pos (valB l) with h | h
      · rw [h, Nat.zero_mul] at h0; exact absurd rfl h0
      · exact h
    have h64 : valB l * 2 ^ s.t < 18446744073709551616 := Nat.lt_of_lt_of_le hd (show 2 ^ (64 - s.l) ≤ 2 ^ 64 from Nat.pow_le_pow_right (by decide) (by omega))
    rw [if_pos ⟨hs, ld_ge _ _ g3 (by omega) hd, tl_ge _ _ hx0 h64⟩]
    unfold encIn
    rw [Nat.mul_div_cancel _ (Nat.two_pow_pos _), ← hl, Tim.bitsOf_valB _ l rfl, b2]; rfl

theorem list_split3 (a b : Nat) (l5 l6 : List Bool) (h5 : l5.length = 5) (h6 : l6.length = 6) (ha : a < 32) (hb : b < 64) (X Y : List Bool) (h : bitsOf a 5 ++ (bitsOf b 6 ++ X) = l5 ++ (l6 ++ Y)) : a = valB l5 ∧ b = valB l6 := by
  have h1 := List.append_inj h (by rw [bitsOf_length, h5])
  have h2 := List.append_inj h1.2 (by rw [bitsOf_length, h6])
  constructor
  · rw [← h1.1, valB_bitsOf]; omega
  · rw [← h2.1, valB_bitsOf]; omega

/-- When what is read is what would be written: a new window. -/
theorem new_ok (s : XS) (hb : s.b = true) (l5 l6 l : List Bool) (h5 : l5.length = 5) (h6 : l6.length = 6) (hpq : valB l5 + valB l6 ≤ 63) (hl : l.length = valB l6 + 1) (d : Nat) (hd : d = valB l * 2 ^ (63 - valB l5 - valB l6)) :
    encV s (s.v ^^^ d) = true :: true :: (l5 ++ (l6 ++ l)) ↔ d ≠ 0 ∧ ¬ Fits s d ∧ ld d = valB l5 ∧ tl d = 63 - valB l5 - valB l6 := by
  have hv := valB_lt l
  rw [hl] at hv
  have hp := valB_lt l5
  rw [h5] at hp
  have hp32 : valB l5 < 32 := hp
  have hd2 := mul_lt_pow (t := 63 - valB l5 - valB l6) hv
  rw [← hd, show valB l6 + 1 + (63 - valB l5 - valB l6) = 64 - valB l5 from by omega] at hd2
  have h64 : d < 18446744073709551616 := Nat.lt_of_lt_of_le hd2 (show 2 ^ (64 - valB l5) ≤ 2 ^ 64 from Nat.pow_le_pow_right (by decide) (by omega))
  unfold encV
  rw [if_pos hb, xor_back]
  unfold encD
  constructor
  · intro h
    by_cases h0 : d = 0
    · rw [if_pos h0] at h
      have := congrArg List.length h
      rw [bitsOf_length] at this; simp at this
    rw [if_neg h0] at h
    by_cases hf : Fits s d
    · rw [if_pos hf] at h
      unfold encIn at h
      rw [b2] at h
      simp at h
    rw [if_neg hf] at h
    unfold encNew at h
    rw [b3] at h
    simp only [List.cons_append, List.nil_append, List.cons.injEq, true_and] at h
    have hlt := ld_tl d (by omega) h64
    have := list_split3 _ _ _ _ h5 h6 (by have := ld_le d; omega) (by omega) _ _ h
    exact ⟨h0, hf, this.1, by omega⟩
  · rintro ⟨h0, hf, e1, e2⟩
    rw [if_neg h0, if_neg hf]
    unfold encNew
    have hx : d / 2 ^ tl d = valB l := by rw [e2]; conv => lhs; rw [hd]
                                          exact Nat.mul_div_cancel _ (Nat.two_pow_pos _)
    rw [hx, e1, e2, b3, show 63 - valB l5 - (63 - valB l5 - valB l6) = valB l6 from by omega, show 64 - valB l5 - (63 - valB l5 - valB l6) = l.length from by omega, Tim.bitsOf_valB _ l rfl,
      Tim.bitsOf_valB 5 l5 h5, Tim.bitsOf_valB 6 l6 h6]
    rfl

/-- Rows of patterns. -/
def encR (s : XS) : List Nat → List Bool
  | [] => []
  | v :: l => encV s v ++ encR (s.next v) l
def stR (s : XS) : List Nat → XS
  | [] => s
  | v :: l => stR (s.next v) l
theorem encR_snoc (l : List Nat) : ∀ s v, encR s (l ++ [v]) = encR s l ++ encV (stR s l) v := by
  induction l with
  | nil => intro s v; simp [encR, stR]
  | cons a l ih => intro s v; simp [encR, stR, ih]
theorem stR_snoc (l : List Nat) : ∀ s v, stR s (l ++ [v]) = (stR s l).next v := by
  induction l with
  | nil => intro s v; rfl
  | cons a l ih => intro s v; simp [stR, ih]
theorem encR_len (l : List Nat) : ∀ s, (encR s l).length ≤ 77 * l.length := by
  induction l with
  | nil => intro s; simp [encR]
  | cons a l ih => intro s; have := ih (s.next a); have := encV_len s a; simp only [encR, List.length_append, List.length_cons]; omega
end Xo
end Go.Proofs.YtdegmeclcbndgaaDoor
