/- The order of labels is one: plain. -/
import Derived.Test.YtlddedddcdhjnaaDoorLd
namespace Go.Proofs.YtlddedddcdhjnaaDoor
open Go.RowKit Lb

namespace Lb
/-- A comparison that is an order's. -/
structure Good {α : Type} (e : α → α → Int) : Prop where
  bnd : ∀ a b, -1 ≤ e a b ∧ e a b ≤ 1
  anti : ∀ a b, e b a = - e a b
  zero : ∀ a b, e a b = 0 ↔ a = b
  tr : ∀ a b c, e a b ≤ 0 → e b c ≤ 0 → e a c ≤ 0
theorem Good.self {α : Type} {e : α → α → Int} (h : Good e) (a : α) : e a a = 0 := (h.zero a a).mpr rfl
theorem Good.lt {α : Type} {e : α → α → Int} (h : Good e) {a b c : α} (h1 : e a b < 0) (h2 : e b c ≤ 0) : e a c < 0 := by
  have h3 := h.tr a b c (by omega) h2
  rcases (by omega : e a c < 0 ∨ e a c = 0) with h4 | h4
  · exact h4
  · have := (h.zero a c).mp h4
    subst this
    have := h.anti a b
    omega
/-- Rows, element by element. -/
def lex {α : Type} [DecidableEq α] (e : α → α → Int) : List α → List α → Int
  | [], [] => 0
  | [], _ :: _ => -1
  | _ :: _, [] => 1
  | p :: a, q :: b => if p = q then lex e a b else e p q
theorem Good.lex {α : Type} [DecidableEq α] {e : α → α → Int} (h : Good e) : Good (lex e) := by
  have ne : ∀ p q, p ≠ q → e p q ≠ 0 := fun p q hn hz => hn ((h.zero p q).mp hz)
  refine ⟨?_, ?_, ?_, ?_⟩
  · intro a
    induction a with
    | nil => intro b; cases b <;> simp [Lb.lex]
    | cons p a ih =>
      intro b
      cases b with
      | nil => simp [Lb.lex]
      | cons q b => simp only [Lb.lex]; split; exact ih b; exact h.bnd p q
  · intro a
    induction a with
    | nil => intro b; cases b <;> simp [Lb.lex]
    | cons p a ih =>
      intro b
      cases b with
      | nil => simp [Lb.lex]
      | cons q b =>
        simp only [Lb.lex]
        by_cases hpq : p = q
        · rw [if_pos hpq, if_pos hpq.symm]; exact ih b
        · rw [if_neg hpq, if_neg (fun e => hpq e.symm)]; exact h.anti p q
  · intro a
    induction a with
    | nil => intro b; cases b <;> simp [Lb.lex]
    | cons p a ih =>
      intro b
      cases b with
      | nil => simp [Lb.lex]
      | cons q b =>
        simp only [Lb.lex]
        by_cases hpq : p = q
        · rw [if_pos hpq, ih b]; simp [hpq]
        · rw [if_neg hpq]
          have := ne p q hpq
          simp [hpq, this]
  · intro a
    induction a with
    | nil => intro b c _ _; cases c <;> simp [Lb.lex]
    | cons p a ih =>
      intro b c h1 h2
      cases b with
      | nil => simp [Lb.lex] at h1
      | cons q b =>
        cases c with
        | nil => simp [Lb.lex] at h2
        | cons r c =>
          simp only [Lb.lex] at h1 h2 ⊢
          by_cases hpq : p = q
          · subst hpq
            rw [if_pos rfl] at h1
            by_cases hqr : p = r
            · rw [if_pos hqr] at h2 ⊢; exact ih b c h1 h2
            · rw [if_neg hqr] at h2 ⊢; exact h2
          · rw [if_neg hpq] at h1
            have n1 := ne p q hpq
            by_cases hqr : q = r
            · subst hqr; rw [if_neg hpq]; exact h1
            · rw [if_neg hqr] at h2
              have n2 := ne q r hqr
              have h3 := h.lt (a := p) (b := q) (c := r) (by omega) h2
              by_cases hpr : p = r
              · subst hpr; rw [h.self] at h3; omega
              · rw [if_neg hpr]; omega
def cmpU (x y : UInt8) : Int := if x < y then -1 else if y < x then 1 else 0
theorem good_u : Good cmpU := by
  have key : ∀ x y : UInt8, cmpU x y = if x.toNat < y.toNat then -1 else if y.toNat < x.toNat then 1 else 0 := fun x y => by
    unfold cmpU; simp only [UInt8.lt_iff_toNat_lt]
  refine ⟨fun a b => ?_, fun a b => ?_, fun a b => ?_, fun a b c => ?_⟩
  · rw [key]; repeat' split
    all_goals omega
  · rw [key, key]; repeat' split
    all_goals omega
  · rw [key, ← UInt8.toNat_inj]; repeat' split
    all_goals omega
  · rw [key, key, key]; repeat' split
    all_goals omega
theorem bytes_lex : Lib.compareBytes = lex cmpU := by
  funext a
  induction a with
  | nil => funext b; cases b <;> rfl
  | cons x a ih =>
    funext b
    cases b with
    | nil => rfl
    | cons y b =>
      simp only [Lib.compareBytes, lex]
      by_cases h1 : x = y
      · subst h1
        have : ¬ x < x := by rw [UInt8.lt_iff_toNat_lt]; omega
        simp [this, ih]
      · rw [if_neg h1]
        have : ¬ x.toNat = y.toNat := fun h => h1 (UInt8.toNat_inj.mp h)
        unfold cmpU
        simp only [UInt8.lt_iff_toNat_lt]
        by_cases h2 : x.toNat < y.toNat
        · simp [h2]
        · have h3 : y.toNat < x.toNat := by omega
          simp [h2, h3]
theorem good_bytes : Good Lib.compareBytes := by rw [bytes_lex]; exact good_u.lex
theorem ba_inj {a b : ByteArray} : a.data.toList = b.data.toList ↔ a = b := ⟨fun h => by rw [← mkS_toList a, ← mkS_toList b, h], fun h => by rw [h]⟩
theorem good_pair : Good cmpP := by
  have hb := good_bytes
  refine ⟨fun a b => ?_, fun a b => ?_, fun a b => ?_, fun a b c h1 h2 => ?_⟩
  · unfold cmpP; split <;> exact hb.bnd _ _
  · unfold cmpP
    by_cases h : a.1 = b.1
    · rw [if_pos h, if_pos h.symm]; exact hb.anti _ _
    · rw [if_neg h, if_neg (fun e => h e.symm)]; exact hb.anti _ _
  · unfold cmpP
    by_cases h : a.1 = b.1
    · rw [if_pos h, hb.zero, ba_inj, Prod.ext_iff]; simp [h]
    · rw [if_neg h, hb.zero, ba_inj]
      constructor
      · intro e; exact absurd e h
      · intro e; exact absurd (congrArg Prod.fst e) h
  · unfold cmpP at h1 h2 ⊢
    by_cases ab : a.1 = b.1
    · rw [if_pos ab] at h1
      by_cases bc : b.1 = c.1
      · rw [if_pos bc] at h2; rw [if_pos (ab.trans bc)]; exact hb.tr _ _ _ h1 h2
      · rw [if_neg bc] at h2; rw [if_neg (fun e => bc (ab.symm.trans e)), ab]; exact h2
    · rw [if_neg ab] at h1
      have n1 : Lib.compareBytes a.1.data.toList b.1.data.toList ≠ 0 := fun e => ab (ba_inj.mp ((hb.zero _ _).mp e))
      by_cases bc : b.1 = c.1
      · rw [if_neg (fun e => ab (e.trans bc.symm)), ← bc]; exact h1
      · rw [if_neg bc] at h2
        have h3 := hb.lt (show Lib.compareBytes a.1.data.toList b.1.data.toList < 0 by omega) h2
        by_cases ac : a.1 = c.1
        · rw [ac, hb.self] at h3; omega
        · rw [if_neg ac]; omega
theorem cmpL_lex : cmpL = lex cmpP := by
  funext a
  induction a with
  | nil => funext b; cases b <;> rfl
  | cons x a ih =>
    funext b
    cases b with
    | nil => rfl
    | cons y b => simp only [cmpL, lex, ih]
theorem good_L : Good cmpL := by rw [cmpL_lex]; exact good_pair.lex
end Lb
end Go.Proofs.YtlddedddcdhjnaaDoor
