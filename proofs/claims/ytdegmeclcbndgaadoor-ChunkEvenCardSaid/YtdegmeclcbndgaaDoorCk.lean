/- Points in bits and bytes, in plain lists. No program in sight. -/
import Derived.Test.YtdegmeclcbndgaaDoorXorB
import Derived.Test.YtdegmeclcbndgaaDoorDig
namespace Go.Proofs.YtdegmeclcbndgaaDoor
open Go.RowKit
namespace Ck
open Bit Tim Xo Dig

/-- The bits of points, and the coders behind them. -/
def encB (s : St) (x : XS) : List (Int × Nat) → List Bool
  | [] => []
  | a :: l => encT s a.1 ++ (encV x a.2 ++ encB (s.next a.1) (x.next a.2) l)
def stT (s : St) : List (Int × Nat) → St
  | [] => s
  | a :: l => stT (s.next a.1) l
def stX (x : XS) : List (Int × Nat) → XS
  | [] => x
  | a :: l => stX (x.next a.2) l
theorem encB_snoc (l : List (Int × Nat)) : ∀ s x a, encB s x (l ++ [a]) = encB s x l ++ (encT (stT s l) a.1 ++ encV (stX x l) a.2) := by
  induction l with
  | nil => intro s x a; simp [encB, stT, stX]
  | cons b l ih => intro s x a; simp [encB, stT, stX, ih]
theorem stT_snoc (l : List (Int × Nat)) : ∀ s a, stT s (l ++ [a]) = (stT s l).next a.1 := by
  induction l with
  | nil => intro s a; rfl
  | cons b l ih => intro s a; simp [stT, ih]
theorem stX_snoc (l : List (Int × Nat)) : ∀ x a, stX x (l ++ [a]) = (stX x l).next a.2 := by
  induction l with
  | nil => intro x a; rfl
  | cons b l ih => intro x a; simp [stX, ih]
theorem encB_len (l : List (Int × Nat)) : ∀ s x, (encB s x l).length ≤ 145 * l.length := by
  induction l with
  | nil => intro s x; simp [encB]
  | cons a l ih =>
    intro s x
    have := ih (s.next a.1) (x.next a.2)
    have := encT_len s a.1
    have := encV_len x a.2
    simp only [encB, List.length_append, List.length_cons]; omega

/-- Times that rise. -/
def ascB : List (Int × Nat) → Bool
  | [] => true
  | [_] => true
  | a :: b :: l => decide (a.1 < b.1) && ascB (b :: l)
theorem ascB_two (l : List (Int × Nat)) : ∀ a b, ascB (l ++ [a, b]) = (ascB (l ++ [a]) && decide (a.1 < b.1)) := by
  induction l with
  | nil => intro a b; simp [ascB]
  | cons c l ih =>
    intro a b
    cases l with
    | nil => simp [ascB]
    | cons d l =>
      have := ih a b
      simp only [List.cons_append] at this ⊢
      simp only [ascB, this, Bool.and_assoc]
theorem ascB_take (l : List (Int × Nat)) (h : ascB l = true) : ∀ j, ascB (l.take j) = true := by
  induction l with
  | nil => intro j; simp [ascB]
  | cons a l ih =>
    intro j
    cases l with
    | nil => cases j <;> simp [ascB]
    | cons b l =>
      simp only [ascB, Bool.and_eq_true] at h
      match j with
      | 0 => simp [ascB]
      | 1 => simp [ascB]
      | j + 2 =>
        have := ih h.2 (j + 1)
        simp only [List.take_succ_cons] at this ⊢
        simp only [ascB, Bool.and_eq_true]
        exact ⟨h.1, this⟩
theorem ascB_step (l : List (Int × Nat)) (j : Nat) (a b : Int × Nat) (ha : l[j]? = some a) (hb : l[j + 1]? = some b) : ascB (l.take (j + 2)) = (ascB (l.take (j + 1)) && decide (a.1 < b.1)) := by
  have h1 : l.take (j + 1) = l.take j ++ [a] := by rw [List.take_add_one, ha]; rfl
  have h2 : l.take (j + 2) = l.take j ++ [a, b] := by
    rw [show j + 2 = (j + 1) + 1 from rfl, List.take_add_one, hb, h1]; simp
  rw [h1, h2, ascB_two]

def encE (l : List (Int × Nat)) : Nat := if l.length < 1 ∨ 64 < l.length then 2 else if ascB l then 0 else 9
def encBits (l : List (Int × Nat)) : List Bool := encB St.zero XS.zero l
def encBytes (l : List (Int × Nat)) : List UInt8 := numB l.length ++ (numB (encBits l).length ++ pack (encBits l))
def encS (l : List (Int × Nat)) : List UInt8 := if encE l = 0 then encBytes l else []
theorem encE_big (l : List (Int × Nat)) (h : l.length < 1 ∨ 64 < l.length) : encE l = 2 ∧ encS l = [] := by
  have : encE l = 2 := by unfold encE; rw [if_pos h]
  exact ⟨this, by unfold encS; rw [this]; rfl⟩
theorem encE_ord (l : List (Int × Nat)) (h1 : 1 ≤ l.length) (h2 : l.length ≤ 64) (h : ascB l = false) : encE l = 9 ∧ encS l = [] := by
  have : encE l = 9 := by unfold encE; rw [if_neg (by omega), h]; rfl
  exact ⟨this, by unfold encS; rw [this]; rfl⟩
theorem encE_ok (l : List (Int × Nat)) (h1 : 1 ≤ l.length) (h2 : l.length ≤ 64) (h : ascB l = true) : encE l = 0 ∧ encS l = encBytes l := by
  have : encE l = 0 := by unfold encE; rw [if_neg (by omega), h]; rfl
  exact ⟨this, by unfold encS; rw [this]; rfl⟩
end Ck
end Go.Proofs.YtdegmeclcbndgaaDoor
