/- Frames that stand one behind the other: plain. -/
import Derived.Test.YtmaebileagfdaaaFrameP
namespace Go.Proofs.Ytmaebileagfdaaa
open Go.RowKit Dig Crc
namespace Frm
/-- All frames at the front, in how many bytes, and what stopped it. -/
def scanN : Nat → List UInt8 → List (Nat × List UInt8) × Nat × Nat
  | 0, _ => ([], 0, 0)
  | f + 1, s => if s = [] then ([], 0, 0) else if (get s).2.2.2 ≠ 0 then ([], 0, (get s).2.2.2) else
    (((get s).1, (get s).2.1) :: (scanN f (s.drop (get s).2.2.1)).1, (get s).2.2.1 + (scanN f (s.drop (get s).2.2.1)).2.1, (scanN f (s.drop (get s).2.2.1)).2.2)
def scan (s : List UInt8) : List (Nat × List UInt8) × Nat × Nat := scanN s.length s

theorem get_n {s : List UInt8} (h : (get s).2.2.2 = 0) : 5 ≤ (get s).2.2.1 ∧ (get s).2.2.1 ≤ s.length := by
  obtain ⟨b, r, t, k, hs, hb, hgt, hk, hsum, hget⟩ := get_ok h
  rw [hget]
  exact ⟨by simp, hk⟩
theorem scanN_more : ∀ (f g : Nat) (s : List UInt8), s.length ≤ f → s.length ≤ g → scanN f s = scanN g s := by
  intro f
  induction f with
  | zero =>
    intro g s h1 h2
    have : s = [] := List.length_eq_zero_iff.mp (by omega)
    subst this
    cases g with
    | zero => rfl
    | succ g => simp [scanN]
  | succ f ih =>
    intro g s h1 h2
    cases g with
    | zero =>
      have : s = [] := List.length_eq_zero_iff.mp (by omega)
      subst this
      simp [scanN]
    | succ g =>
      unfold scanN
      by_cases h0 : s = []
      · rw [if_pos h0, if_pos h0]
      · rw [if_neg h0, if_neg h0]
        by_cases he : (get s).2.2.2 = 0
        · rw [if_neg (by simpa using he), if_neg (by simpa using he)]
          have := get_n he
          rw [ih g (s.drop (get s).2.2.1) (by rw [List.length_drop]; omega) (by rw [List.length_drop]; omega)]
        · rw [if_pos he, if_pos he]
theorem scan_nil : scan [] = ([], 0, 0) := rfl
theorem scan_err {s : List UInt8} (h0 : s ≠ []) (h : (get s).2.2.2 ≠ 0) : scan s = ([], 0, (get s).2.2.2) := by
  obtain ⟨n, hn⟩ : ∃ n, s.length = n + 1 := ⟨s.length - 1, by have := List.length_pos_iff.mpr h0; omega⟩
  unfold scan
  rw [hn, scanN, if_neg h0, if_pos h]
theorem scan_ok {s : List UInt8} (h0 : s ≠ []) (h : (get s).2.2.2 = 0) : scan s = (((get s).1, (get s).2.1) :: (scan (s.drop (get s).2.2.1)).1, (get s).2.2.1 + (scan (s.drop (get s).2.2.1)).2.1, (scan (s.drop (get s).2.2.1)).2.2) := by
  obtain ⟨n, hn⟩ : ∃ n, s.length = n + 1 := ⟨s.length - 1, by have := List.length_pos_iff.mpr h0; omega⟩
  have hg := get_n h
  have e : scanN n (s.drop (get s).2.2.1) = scan (s.drop (get s).2.2.1) := by
    unfold scan
    exact scanN_more _ _ _ (by rw [List.length_drop]; omega) (Nat.le_refl _)
  rw [← e]
  unfold scan
  rw [hn, scanN, if_neg h0, if_neg (by simpa using h)]

/-- What has been scanned so far. -/
def Sofar (s : List UInt8) (l : List (Nat × List UInt8)) (n : Nat) : Prop :=
  n ≤ s.length ∧ 5 * l.length ≤ n ∧ scan s = (l ++ (scan (s.drop n)).1, n + (scan (s.drop n)).2.1, (scan (s.drop n)).2.2)
theorem Sofar.zero (s : List UInt8) : Sofar s [] 0 := ⟨Nat.zero_le _, by simp, by simp⟩
theorem Sofar.step {s : List UInt8} {l : List (Nat × List UInt8)} {n : Nat} (h : Sofar s l n) (hn : n < s.length) (he : (get (s.drop n)).2.2.2 = 0) :
    Sofar s (l ++ [((get (s.drop n)).1, (get (s.drop n)).2.1)]) (n + (get (s.drop n)).2.2.1) := by
  have h0 : s.drop n ≠ [] := by rw [Ne, List.drop_eq_nil_iff]; omega
  have hg := get_n he
  rw [List.length_drop] at hg
  obtain ⟨h1, h2, h3⟩ := h
  refine ⟨by omega, by rw [List.length_append, List.length_singleton]; omega, ?_⟩
  rw [h3, scan_ok h0 he, List.drop_drop]
  simp only [List.append_assoc, List.singleton_append]
  rw [Nat.add_assoc]
theorem Sofar.stop {s : List UInt8} {l : List (Nat × List UInt8)} {n : Nat} (h : Sofar s l n) (hn : n < s.length) (he : (get (s.drop n)).2.2.2 ≠ 0) : scan s = (l, n, (get (s.drop n)).2.2.2) := by
  have h0 : s.drop n ≠ [] := by rw [Ne, List.drop_eq_nil_iff]; omega
  rw [h.2.2, scan_err h0 he]; simp
theorem Sofar.all {s : List UInt8} {l : List (Nat × List UInt8)} {n : Nat} (h : Sofar s l n) (hn : n = s.length) : scan s = (l, n, 0) := by
  have h0 : s.drop n = [] := by rw [List.drop_eq_nil_iff]; omega
  rw [h.2.2, h0, scan_nil]; simp
end Frm
end Go.Proofs.Ytmaebileagfdaaa
