/- What the next bits tell, and what the document asks of it. -/
import Derived.Test.YtdegmeclcbndgaaDoorTimB
namespace Go.Proofs.YtdegmeclcbndgaaDoor
open Go.RowKit Bit Tim

namespace Tim
theorem encT_pos (s : St) (t : Int) : 0 < (encT s t).length := by
  unfold encT
  split
  · unfold encX
    repeat' split
    all_goals simp [bitsOf_length]
  · rw [bitsOf_length]; omega
theorem cand_first (s : St) (L : List Bool) (hb : s.b = false) (h : 64 ≤ L.length) : getT s L = if encT s (wrap64 (valB (L.take 64) : Nat)) = L.take 64 then some (wrap64 (valB (L.take 64) : Nat), 64) else none := by
  have hl : (L.take 64).length = 64 := by rw [List.length_take]; omega
  have hv := valB_lt (L.take 64)
  rw [hl] at hv
  have e : (2 : Nat) ^ 64 = 18446744073709551616 := by decide
  rw [e] at hv
  have h1 : (IntKind.u64.wrap (wrap64 (valB (L.take 64) : Nat))).toNat = valB (L.take 64) := by
    have hw : ∀ x : Int, IntKind.u64.wrap x = x % 18446744073709551616 := fun x => by simp [IntKind.wrap, IntKind.bits, IntKind.signed]
    rw [hw]; unfold wrap64; omega
  have h2 : encT s (wrap64 (valB (L.take 64) : Nat)) = L.take 64 := by
    unfold encT
    rw [hb, if_neg (by simp), h1, bitsOf_valB _ _ hl]
  rw [if_pos h2]
  unfold getT
  rw [hb, if_neg (by simp), if_pos h]
theorem none_first (s : St) (L : List Bool) (hb : s.b = false) (h : ¬ 64 ≤ L.length) : getT s L = none := by
  unfold getT
  rw [hb, if_neg (by simp), if_neg h]
theorem cand_next (s : St) (L : List Bool) (hb : s.b = true) (x : Int) (n : Nat) (h : parse L = some (x, n)) (hx : -9223372036854775808 ≤ x ∧ x < 9223372036854775808) :
    getT s L = if encT s (wrap64 (wrap64 (s.t + s.d) + x)) = L.take n then some (wrap64 (wrap64 (s.t + s.d) + x), n) else none := by
  have h1 : encT s (wrap64 (wrap64 (s.t + s.d) + x)) = encX x := by
    unfold encT
    rw [hb, if_pos rfl]
    congr 1
    unfold chgX wrap64; omega
  rw [h1]
  unfold getT decX
  rw [hb, if_pos rfl, h]
  simp only
  by_cases he : encX x = L.take n
  · rw [if_pos he, if_pos he]
  · rw [if_neg he, if_neg he]
theorem none_next (s : St) (L : List Bool) (hb : s.b = true) (h : parse L = none) : getT s L = none := by
  unfold getT decX
  rw [hb, if_pos rfl, h]
theorem parse_fit (L : List Bool) (x : Int) (n : Nat) (h : parse L = some (x, n)) : -9223372036854775808 ≤ x ∧ x < 9223372036854775808 := by
  unfold parse at h
  split at h
  · simp at h
  · split at h
    · simp only [Option.some.injEq, Prod.mk.injEq] at h
      rw [← h.1]; exact wrap_fit _
    · simp at h
end Tim
end Go.Proofs.YtdegmeclcbndgaaDoor
