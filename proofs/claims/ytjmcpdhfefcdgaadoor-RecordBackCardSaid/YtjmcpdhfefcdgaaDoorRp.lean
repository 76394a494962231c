/- Records in bytes: plain. -/
import Derived.Test.YtjmcpdhfefcdgaaDoorRb
import Derived.Test.YtjmcpdhfefcdgaaDoorMp
namespace Go.Proofs.YtjmcpdhfefcdgaaDoor
open Go.RowKit Lb Dig Inn

namespace Lb
/-- A sample's bytes. -/
def smB (s : Smp) : List UInt8 := textB (encL s.1).1 ++ (numB (zig s.2.1) ++ numB s.2.2)
def smsB (sm : List Smp) : List UInt8 := sm.flatMap smB
/-- A record's bytes, and what is wrong with it. -/
def encC (k : Int) (sm : List Smp) (ms : List Mt) (fr tt : Int) : List UInt8 × Nat :=
  if chkR k sm ms fr tt ≠ 0 then ([], chkR k sm ms fr tt) else
  (numB k.toNat ++ (if k = 2 then (encM ms).1 ++ (numB (zig fr) ++ numB (zig tt)) else numB sm.length ++ smsB sm), 0)
theorem encC_err (k : Int) (sm : List Smp) (ms : List Mt) (fr tt : Int) : (encC k sm ms fr tt).2 = chkR k sm ms fr tt := by
  unfold encC
  split
  · rfl
  · rename_i h; simp at h; exact h.symm
theorem encL_le (l : List Pr) : (encL l).1.length ≤ 1000 := by
  unfold encL
  split
  · simp
  · rename_i h
    have h0 : chkL l = 0 := by simpa using h
    obtain ⟨_, h8, hok⟩ := chkL_ok h0
    have h1 := pairsB_len l hok
    have h2 : (numB l.length).length ≤ 9 := by have := dig_len8 l.length (by omega); unfold numB; simp; omega
    rw [List.length_append]; omega
theorem numB_le (n : Nat) (h : n < 18446744073709551616) : (numB n).length ≤ 9 := by have := dig_len8 n h; unfold numB; simp; omega
theorem smB_len (s : Smp) (h1 : -9223372036854775808 ≤ s.2.1 ∧ s.2.1 < 9223372036854775808) (h2 : s.2.2 < 18446744073709551616) : (smB s).length ≤ 1100 := by
  have a := textB_len' (encL s.1).1 (by have := encL_le s.1; omega)
  have b := encL_le s.1
  have c := numB_le (zig s.2.1) (zig_lt _ h1.1 h1.2)
  have d := numB_le s.2.2 h2
  unfold smB
  rw [List.length_append, List.length_append]
  omega
theorem smsB_snoc (l : List Smp) (s : Smp) : smsB (l ++ [s]) = smsB l ++ smB s := by simp [smsB]
theorem smsB_len (l : List Smp) (h : ∀ s ∈ l, (-9223372036854775808 ≤ s.2.1 ∧ s.2.1 < 9223372036854775808) ∧ s.2.2 < 18446744073709551616) : (smsB l).length ≤ 1100 * l.length := by
  induction l with
  | nil => simp [smsB]
  | cons a l ih =>
    have h1 := ih (fun p hp => h p (List.mem_cons_of_mem _ hp))
    have h2 := smB_len a (h a (List.mem_cons_self ..)).1 (h a (List.mem_cons_self ..)).2
    simp only [smsB, List.flatMap_cons, List.length_append, List.length_cons] at h1 ⊢
    omega
theorem bad_ok {sm : List Smp} (h : badS sm = false) : ∀ s ∈ sm, chkL s.1 = 0 := by
  intro s hs
  unfold badS at h
  rw [List.any_eq_false] at h
  have := h s hs
  simpa using this
theorem chkR_one {k : Int} {sm : List Smp} {ms : List Mt} {fr tt : Int} (h : chkR k sm ms fr tt = 0) : (k = 1 ∧ ms = [] ∧ fr = 0 ∧ tt = 0 ∧ 1 ≤ sm.length ∧ sm.length ≤ 32 ∧ badS sm = false) ∨ (k = 2 ∧ sm = [] ∧ chkM ms = 0 ∧ fr ≤ tt) := by
  unfold chkR at h
  by_cases h1 : k = 1
  · rw [if_pos h1] at h
    split at h
    · omega
    · rename_i h2
      split at h
      · omega
      · rename_i h3
        split at h
        · omega
        · rename_i h4
          exact .inl ⟨h1, List.length_eq_zero_iff.mp (by omega), by omega, by omega, by omega, by omega, by simpa using h4⟩
  · rw [if_neg h1] at h
    by_cases h2 : k = 2
    · rw [if_pos h2] at h
      split at h
      · omega
      · rename_i h3
        split at h
        · rename_i h4; exact absurd h h4
        · rename_i h4
          split at h
          · omega
          · exact .inr ⟨h2, List.length_eq_zero_iff.mp (by omega), by simpa using h4, by omega⟩
    · rw [if_neg h2] at h; omega
end Lb
/-- What all samples of a row bear. -/
theorem RowSm.mem {w : World} {a : Option Addr} {l : List Smp} (h : RowSm w a l) : ∀ s ∈ l, (-9223372036854775808 ≤ s.2.1 ∧ s.2.1 < 9223372036854775808) ∧ s.2.2 < 18446744073709551616 := by
  intro s hs
  obtain ⟨cs, a', n, c, _, _, _, _, _, _, h1, h2⟩ := RowG.all h s hs
  exact ⟨h1, h2⟩
end Go.Proofs.YtjmcpdhfefcdgaaDoor
