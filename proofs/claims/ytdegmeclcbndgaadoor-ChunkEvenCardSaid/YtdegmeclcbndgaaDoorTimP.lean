/- Reading times in bits, in plain lists. No program in sight. -/
import Derived.Test.YtdegmeclcbndgaaDoorTim
import Derived.Test.YtdegmeclcbndgaaDoorBitG
namespace Go.Proofs.YtdegmeclcbndgaaDoor
open Go.RowKit
namespace Tim
open Bit

/-- How many bits 1 stand ahead, up to k of them; whether a bit was missing. -/
def onesB : Nat → List Bool → Option Nat
  | 0, _ => some 0
  | _ + 1, [] => none
  | _ + 1, false :: _ => some 0
  | k + 1, true :: r => (onesB k r).map (· + 1)

/-- The bits behind so many bits 1, what is taken off, and how many bits stand ahead. -/
def wOf : Nat → Nat
  | 0 => 0 | 1 => 7 | 2 => 9 | 3 => 12 | _ => 64
def offOf : Nat → Int
  | 0 => 0 | 1 => 63 | 2 => 255 | 3 => 2047 | _ => 0
def frOf : Nat → Nat
  | 0 => 1 | 1 => 2 | 2 => 3 | 3 => 4 | _ => 4

/-- The change that is told, and how many bits tell it. -/
def parse (B : List Bool) : Option (Int × Nat) :=
  match onesB 4 B with
  | none => none
  | some k => if frOf k + wOf k ≤ B.length then some (wrap64 (wrap64 (valB ((B.drop (frOf k)).take (wOf k)) : Nat) - offOf k), frOf k + wOf k) else none

def decX (B : List Bool) : Option (Int × Nat) :=
  match parse B with
  | none => none
  | some (x, n) => if encX x = B.take n then some (x, n) else none

theorem decX_pre {B : List Bool} {x : Int} {n : Nat} (h : decX B = some (x, n)) : n ≤ B.length ∧ encX x = B.take n := by
  unfold decX at h
  cases hp : parse B with
  | none => rw [hp] at h; simp at h
  | some y =>
    obtain ⟨x', n'⟩ := y
    rw [hp] at h
    simp only at h
    split at h
    · rename_i he
      cases h
      refine ⟨?_, he⟩
      unfold parse at hp
      split at hp
      · simp at hp
      · split at hp
        · rename_i hl
          simp only [Option.some.injEq, Prod.mk.injEq] at hp
          omega
        · simp at hp
    · simp at h
theorem parse_of (k w U : Nat) (front : List Bool) (R : List Bool) (x : Int) (ho : onesB 4 (front ++ (bitsOf U w ++ R)) = some k) (hf : front.length = frOf k) (hw : w = wOf k) (hU : U < 2 ^ w)
    (hx : wrap64 (wrap64 (U : Nat) - offOf k) = x) : parse (front ++ (bitsOf U w ++ R)) = some (x, (front ++ bitsOf U w).length) := by
  unfold parse
  rw [ho]
  simp only
  have hl : (front ++ bitsOf U w).length = frOf k + wOf k := by rw [List.length_append, bitsOf_length, hf, hw]
  rw [if_pos (by rw [← List.append_assoc, List.length_append, hl]; omega), hl, ← hf, List.drop_append_of_le_length (Nat.le_refl _), List.drop_length, List.nil_append, ← hw,
    List.take_append_of_le_length (by rw [bitsOf_length]; exact Nat.le_refl _), List.take_of_length_le (by rw [bitsOf_length]; exact Nat.le_refl _), valB_bitsOf, Nat.mod_eq_of_lt hU, hx]

theorem decX_enc (x : Int) (h : -9223372036854775808 ≤ x ∧ x < 9223372036854775808) (R : List Bool) : decX (encX x ++ R) = some (x, (encX x).length) := by
  have key : parse (encX x ++ R) = some (x, (encX x).length) := by
    unfold encX
    split
    · rename_i h0
      subst h0
      have e : bitsOf 0 0 = [] := rfl
      have := parse_of 0 0 0 [false] R 0 (by rfl) rfl rfl (by decide) (by simp [offOf, wrap64])
      rw [e] at this
      simpa using this
    · split
      · have := parse_of 1 7 (x + 63).toNat (bitsOf 2 2) R x (by rfl) rfl rfl (show _ < 128 by omega) (by simp only [offOf]; unfold wrap64; omega)
        rw [List.append_assoc]; exact this
      · split
        · have := parse_of 2 9 (x + 255).toNat (bitsOf 6 3) R x (by rfl) rfl rfl (show _ < 512 by omega) (by simp only [offOf]; unfold wrap64; omega)
          rw [List.append_assoc]; exact this
        · split
          · have := parse_of 3 12 (x + 2047).toNat (bitsOf 14 4) R x (by rfl) rfl rfl (show _ < 4096 by omega) (by simp only [offOf]; unfold wrap64; omega)
            rw [List.append_assoc]; exact this
          · have hu : IntKind.u64.wrap x = x % 18446744073709551616 := by simp [IntKind.wrap, IntKind.bits, IntKind.signed]
            have := parse_of 4 64 (IntKind.u64.wrap x).toNat (bitsOf 15 4) R x (by rfl) rfl rfl (show _ < 18446744073709551616 by rw [hu]; omega) (by simp only [offOf]; rw [hu]; unfold wrap64; omega)
            rw [List.append_assoc]; exact this
  unfold decX
  rw [key]
  simp only
  rw [if_pos]
  rw [List.take_append_of_le_length (Nat.le_refl _), List.take_of_length_le (Nat.le_refl _)]
theorem bitsOf_valB : ∀ (n : Nat) (l : List Bool), l.length = n → bitsOf (valB l) n = l := by
  intro n
  induction n with
  | zero => intro l hl; rw [List.length_eq_zero_iff.mp hl]; rfl
  | succ n ih =>
    intro l hl
    have hne : l ≠ [] := fun e => by rw [e] at hl; simp at hl
    have hd : l.dropLast.length = n := by rw [List.length_dropLast, hl]; rfl
    conv => lhs; rw [← List.dropLast_concat_getLast hne]
    rw [valB_snoc, bitsOf_snoc]
    generalize hb : l.getLast hne = b
    have e1 : (2 * valB l.dropLast + (if b = true then 1 else 0)) / 2 = valB l.dropLast := by split <;> omega
    have e2 : (2 * valB l.dropLast + (if b = true then 1 else 0)).testBit 0 = b := by
      rw [Nat.testBit_zero]; cases b <;> simp <;> omega
    rw [e1, e2, ih _ hd, ← hb, List.dropLast_concat_getLast hne]

/-- The bits ahead of a class. -/
def frontB : Nat → List Bool
  | 0 => [false] | 1 => [true, false] | 2 => [true, true, false] | 3 => [true, true, true, false] | _ => [true, true, true, true]

theorem dec_front (k : Nat) (hk : k ≤ 4) (R : List Bool) : decX (frontB k ++ R) =
    if wOf k ≤ R.length then (if encX (wrap64 (wrap64 (valB (R.take (wOf k)) : Nat) - offOf k)) = frontB k ++ R.take (wOf k) then some (wrap64 (wrap64 (valB (R.take (wOf k)) : Nat) - offOf k), frOf k + wOf k) else none) else none := by
  have ho : onesB 4 (frontB k ++ R) = some k := by
    rcases (by omega : k = 0 ∨ k = 1 ∨ k = 2 ∨ k = 3 ∨ k = 4) with rfl | rfl | rfl | rfl | rfl <;> rfl
  have hf : (frontB k).length = frOf k := by
    rcases (by omega : k = 0 ∨ k = 1 ∨ k = 2 ∨ k = 3 ∨ k = 4) with rfl | rfl | rfl | rfl | rfl <;> rfl
  unfold decX parse
  rw [ho]
  simp only
  have hd : (frontB k ++ R).drop (frOf k) = R := by rw [← hf, List.drop_append_of_le_length (Nat.le_refl _), List.drop_length, List.nil_append]
  have ht : (frontB k ++ R).take (frOf k + wOf k) = frontB k ++ R.take (wOf k) := by rw [← hf, List.take_length_add_append]
  rw [hd]
  by_cases h : wOf k ≤ R.length
  · rw [if_pos (by rw [List.length_append, hf]; omega), if_pos h]
    simp only
    rw [ht]
  · rw [if_neg (by rw [List.length_append, hf]; omega), if_neg h]

theorem dec_short (j : Nat) (hj : j ≤ 3) : decX (List.replicate j true) = none := by
  rcases (by omega : j = 0 ∨ j = 1 ∨ j = 2 ∨ j = 3) with rfl | rfl | rfl | rfl <;> rfl
theorem encX_of0 : encX 0 = frontB 0 := rfl
theorem encX_of1 (x : Int) (h0 : ¬ x = 0) (h : -63 ≤ x ∧ x ≤ 64) : encX x = frontB 1 ++ bitsOf (x + 63).toNat 7 := by
  unfold encX; rw [if_neg h0, if_pos h]; rfl
theorem encX_of2 (x : Int) (h0 : ¬ (-63 ≤ x ∧ x ≤ 64)) (h : -255 ≤ x ∧ x ≤ 256) : encX x = frontB 2 ++ bitsOf (x + 255).toNat 9 := by
  unfold encX; rw [if_neg (by omega), if_neg h0, if_pos h]; rfl
theorem encX_of3 (x : Int) (h0 : ¬ (-255 ≤ x ∧ x ≤ 256)) (h : -2047 ≤ x ∧ x ≤ 2048) : encX x = frontB 3 ++ bitsOf (x + 2047).toNat 12 := by
  unfold encX; rw [if_neg (by omega), if_neg (by omega), if_neg h0, if_pos h]; rfl
theorem encX_of4 (x : Int) (h0 : ¬ (-2047 ≤ x ∧ x ≤ 2048)) : encX x = frontB 4 ++ bitsOf (IntKind.u64.wrap x).toNat 64 := by
  unfold encX; rw [if_neg (by omega), if_neg (by omega), if_neg (by omega), if_neg h0]; rfl

theorem len1 (x : Int) (h : ¬ (x = 0)) : 9 ≤ (encX x).length := by
  unfold encX; rw [if_neg h]; repeat' split
  all_goals simp [bitsOf_length]

/-- What the program asks of a change that was read. -/
def okX (k : Nat) (x : Int) : Prop :=
  match k with
  | 0 => True
  | 1 => ¬ x = 0
  | 2 => ¬ (-63 ≤ x ∧ x ≤ 64)
  | 3 => ¬ (-255 ≤ x ∧ x ≤ 256)
  | _ => ¬ (-2047 ≤ x ∧ x ≤ 2048)
instance (k : Nat) (x : Int) : Decidable (okX k x) := by unfold okX; split <;> infer_instance

theorem okX_iff (k : Nat) (hk : k ≤ 4) (l : List Bool) (hl : l.length = wOf k) (x : Int) (hx : x = wrap64 (wrap64 (valB l : Nat) - offOf k)) : encX x = frontB k ++ l ↔ okX k x := by
  have hv := valB_lt l
  rw [hl] at hv
  have hb := bitsOf_valB _ l hl
  rcases (by omega : k = 0 ∨ k = 1 ∨ k = 2 ∨ k = 3 ∨ k = 4) with rfl | rfl | rfl | rfl | rfl
  · have : l = [] := List.length_eq_zero_iff.mp hl
    subst this
    have : x = 0 := by rw [hx]; simp [offOf, wrap64, valB]
    subst this
    simp [okX, encX_of0]
  · simp only [wOf, offOf] at hv hx hl hb
    have e : (2 : Nat) ^ 7 = 128 := by decide
    rw [e] at hv
    have hx2 : x = (valB l : Int) - 63 := by rw [hx]; unfold wrap64; omega
    have hu : (x + 63).toNat = valB l := by omega
    simp only [okX]
    constructor
    · intro h h0
      rw [h0, encX_of0] at h
      have := congrArg List.length h
      simp [frontB] at this
    · intro h
      rw [encX_of1 x h (by omega), hu, hb]
  · simp only [wOf, offOf] at hv hx hl hb
    have e : (2 : Nat) ^ 9 = 512 := by decide
    rw [e] at hv
    have hx2 : x = (valB l : Int) - 255 := by rw [hx]; unfold wrap64; omega
    have hu : (x + 255).toNat = valB l := by omega
    simp only [okX]
    constructor
    · intro h h0
      have := congrArg List.length h
      by_cases hz : x = 0
      · rw [hz, encX_of0] at this; simp [frontB, hl] at this
      · rw [encX_of1 x hz h0] at this; simp [frontB, hl, bitsOf_length] at this
    · intro h
      rw [encX_of2 x h (by omega), hu, hb]
  · simp only [wOf, offOf] at hv hx hl hb
    have e : (2 : Nat) ^ 12 = 4096 := by decide
    rw [e] at hv
    have hx2 : x = (valB l : Int) - 2047 := by rw [hx]; unfold wrap64; omega
    have hu : (x + 2047).toNat = valB l := by omega
    simp only [okX]
    constructor
    · intro h h0
      have := congrArg List.length h
      by_cases hz : x = 0
      · rw [hz, encX_of0] at this; simp [frontB, hl] at this
      · by_cases h1 : -63 ≤ x ∧ x ≤ 64
        · rw [encX_of1 x hz h1] at this; simp [frontB, hl, bitsOf_length] at this
        · rw [encX_of2 x h1 h0] at this; simp [frontB, hl, bitsOf_length] at this
    · intro h
      rw [encX_of3 x h (by omega), hu, hb]
  · simp only [wOf, offOf] at hv hx hl hb
    have e : (2 : Nat) ^ 64 = 18446744073709551616 := by decide
    rw [e] at hv
    have hu : (IntKind.u64.wrap x).toNat = valB l := by
      have hw : IntKind.u64.wrap x = x % 18446744073709551616 := by simp [IntKind.wrap, IntKind.bits, IntKind.signed]
      rw [hw, hx]; unfold wrap64; omega
    simp only [okX]
    constructor
    · intro h h0
      have := congrArg List.length h
      by_cases hz : x = 0
      · rw [hz, encX_of0] at this; simp [frontB, hl] at this
      · by_cases h1 : -63 ≤ x ∧ x ≤ 64
        · rw [encX_of1 x hz h1] at this; simp [frontB, hl, bitsOf_length] at this
        · by_cases h2 : -255 ≤ x ∧ x ≤ 256
          · rw [encX_of2 x h1 h2] at this; simp [frontB, hl, bitsOf_length] at this
          · rw [encX_of3 x h2 h0] at this; simp [frontB, hl, bitsOf_length] at this
    · intro h
      rw [encX_of4 x h, hu, hb]

theorem dec_ok (k : Nat) (hk : k ≤ 4) (R : List Bool) (hR : wOf k ≤ R.length) (x : Int) (hx : x = wrap64 (wrap64 (valB (R.take (wOf k)) : Nat) - offOf k)) :
    decX (frontB k ++ R) = if okX k x then some (x, frOf k + wOf k) else none := by
  have hl : (R.take (wOf k)).length = wOf k := by rw [List.length_take]; omega
  have h := okX_iff k hk (R.take (wOf k)) hl x hx
  rw [dec_front k hk R, if_pos hR, ← hx]
  by_cases ho : okX k x
  · rw [if_pos ho, if_pos (h.mpr ho)]
  · rw [if_neg ho, if_neg (fun e => ho (h.mp e))]
end Tim
end Go.Proofs.YtdegmeclcbndgaaDoor
