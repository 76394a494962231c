/- The document's reading of numbers and texts is that of nums and texts. No program in sight. -/
import Derived.Test.YtmaebileagfdaaaWrI
namespace Go.Proofs.Ytmaebileagfdaaa
open Go.RowKit Dig Wr

namespace Wr
/-- So many numbers, as the document reads them. -/
def numsR : Nat → List UInt8 → Nat → List Nat × List UInt8 × Nat
  | 0, l, e => ([], l, e)
  | n + 1, l, e => ((inNum l e).1 :: (numsR n (inNum l e).2.1 (inMust (inNum l e).2.2 (decide ((inNum l e).1 ≤ 4294967295)) 3)).1,
      (numsR n (inNum l e).2.1 (inMust (inNum l e).2.2 (decide ((inNum l e).1 ≤ 4294967295)) 3)).2)
/-- So many texts, while there is no error. -/
def textsR : Nat → List UInt8 → Nat → List ByteArray × List UInt8 × Nat
  | 0, l, e => ([], l, e)
  | n + 1, l, e => if e ≠ 0 then ([], l, e) else (mkS (inText l e 65536).1 :: (textsR n (inText l e 65536).2.1 (inText l e 65536).2.2).1, (textsR n (inText l e 65536).2.1 (inText l e 65536).2.2).2)

theorem inNum_bad {l : List UInt8} {e : Nat} (h : e ≠ 0) : inNum l e = (0, l, e) := by unfold inNum; rw [if_pos h]
theorem numsR_bad : ∀ (n : Nat) (l : List UInt8) (e : Nat), e ≠ 0 → (numsR n l e).2.2 = e := by
  intro n
  induction n with
  | zero => intro l e _; rfl
  | succ n ih =>
    intro l e h
    unfold numsR
    rw [inNum_bad h]
    have : inMust e (decide (0 ≤ 4294967295)) 3 = e := by unfold inMust; simp
    simp only
    rw [this]
    exact ih l e h
theorem numsR_len : ∀ (n : Nat) (l : List UInt8) (e : Nat), (numsR n l e).1.length = n := by
  intro n
  induction n with
  | zero => intro l e; rfl
  | succ n ih => intro l e; unfold numsR; simp only [List.length_cons]; rw [ih]
theorem numsR_some : ∀ (n : Nat) (l : List UInt8) (xs : List Nat) (r : List UInt8), nums n l = some (xs, r) → numsR n l 0 = (xs, r, 0) := by
  intro n
  induction n with
  | zero => intro l xs r h; simp [nums] at h; simp [numsR, h]
  | succ n ih =>
    intro l xs r h
    unfold nums at h
    split at h
    · cases h
    · rename_i hc
      cases h2 : nums n (l.drop (getNum l).2.1) with
      | none => rw [h2] at h; cases h
      | some y =>
        obtain ⟨ys, r2⟩ := y
        rw [h2] at h
        simp only [Option.map_some, Option.some.injEq, Prod.mk.injEq] at h
        obtain ⟨rfl, rfl⟩ := h
        have hi : inNum l 0 = ((getNum l).1, l.drop (getNum l).2.1, (getNum l).2.2) := by unfold inNum; simp
        have h0 : (getNum l).2.2 = 0 := by omega
        have h1 : (getNum l).1 ≤ 4294967295 := by omega
        have hm : inMust (getNum l).2.2 (decide ((getNum l).1 ≤ 4294967295)) 3 = 0 := by unfold inMust; simp [h0, h1]
        unfold numsR
        rw [hi]
        simp only
        rw [hm, ih _ _ _ h2]
theorem numsR_none : ∀ (n : Nat) (l : List UInt8), nums n l = none → (numsR n l 0).2.2 ≠ 0 := by
  intro n
  induction n with
  | zero => intro l h; simp [nums] at h
  | succ n ih =>
    intro l h
    have hi : inNum l 0 = ((getNum l).1, l.drop (getNum l).2.1, (getNum l).2.2) := by unfold inNum; simp
    unfold numsR
    rw [hi]
    simp only
    unfold nums at h
    split at h
    · rename_i hc
      have hm : inMust (getNum l).2.2 (decide ((getNum l).1 ≤ 4294967295)) 3 ≠ 0 := by
        unfold inMust
        split
        · decide
        · rename_i h3; intro h4; apply h3; refine ⟨h4, decide_eq_false ?_⟩; omega
      rw [numsR_bad _ _ _ hm]; exact hm
    · rename_i hc
      have h0 : (getNum l).2.2 = 0 := by omega
      have h1 : (getNum l).1 ≤ 4294967295 := by omega
      have hm : inMust (getNum l).2.2 (decide ((getNum l).1 ≤ 4294967295)) 3 = 0 := by unfold inMust; simp [h0, h1]
      rw [hm]
      cases h2 : nums n (l.drop (getNum l).2.1) with
      | none => exact ih _ h2
      | some y => rw [h2] at h; cases h
theorem textsR_bad (n : Nat) (l : List UInt8) (e : Nat) (h : e ≠ 0) : textsR n l e = ([], l, e) := by
  cases n with
  | zero => rfl
  | succ n => unfold textsR; rw [if_pos h]
theorem textsR_some : ∀ (n : Nat) (l : List UInt8) (xs : List ByteArray) (r : List UInt8), texts n l = some (xs, r) → textsR n l 0 = (xs, r, 0) := by
  intro n
  induction n with
  | zero => intro l xs r h; simp [texts] at h; simp [textsR, h]
  | succ n ih =>
    intro l xs r h
    unfold texts at h
    split at h
    · cases h
    · rename_i hc
      cases h2 : texts n (l.drop (getText l 65536).2.1) with
      | none => rw [h2] at h; cases h
      | some y =>
        obtain ⟨ys, r2⟩ := y
        rw [h2] at h
        simp only [Option.map_some, Option.some.injEq, Prod.mk.injEq] at h
        obtain ⟨rfl, rfl⟩ := h
        have h0 : (getText l 65536).2.2 = 0 := by omega
        have hi : inText l 0 65536 = ((getText l 65536).1, l.drop (getText l 65536).2.1, 0) := by unfold inText; simp [h0]
        unfold textsR
        rw [if_neg (by omega), hi]
        simp only
        rw [ih _ _ _ h2]
theorem textsR_none : ∀ (n : Nat) (l : List UInt8), texts n l = none → (textsR n l 0).2.2 ≠ 0 := by
  intro n
  induction n with
  | zero => intro l h; simp [texts] at h
  | succ n ih =>
    intro l h
    have hi : inText l 0 65536 = ((getText l 65536).1, l.drop (getText l 65536).2.1, (getText l 65536).2.2) := by unfold inText; simp
    unfold textsR
    rw [if_neg (by omega), hi]
    simp only
    unfold texts at h
    split at h
    · rename_i hc
      rw [textsR_bad _ _ _ hc]; exact hc
    · rename_i hc
      have h0 : (getText l 65536).2.2 = 0 := by omega
      rw [h0]
      cases h2 : texts n (l.drop (getText l 65536).2.1) with
      | none => exact ih _ h2
      | some y => rw [h2] at h; cases h
end Wr
end Go.Proofs.Ytmaebileagfdaaa
