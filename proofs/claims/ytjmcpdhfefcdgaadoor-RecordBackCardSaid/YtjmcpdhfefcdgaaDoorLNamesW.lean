/- The law of names and values. -/
import Derived.Test.YtjmcpdhfefcdgaaDoorLw
namespace Go.Proofs.YtjmcpdhfefcdgaaDoor
open Go.RowKit Lb Dig

namespace Lb
theorem chk_name (s : ByteArray) : chkL [(s, { data := #[49] })] = if nameB s.data.toList = true then 0 else 16 := by
  have h1 : valueB ({ data := #[49] } : ByteArray).data.toList = true := by decide
  unfold chkL okL
  simp only [List.length_cons, List.length_nil]
  rw [h1]
  by_cases h : nameB s.data.toList = true
  · rw [gtB_nil h, h]; simp [okL]
  · have h2 : nameB s.data.toList = false := by simpa using h
    rw [h2]; simp
theorem chk_value (s : ByteArray) : chkL [({ data := #[97] }, s)] = if valueB s.data.toList = true then 0 else 16 := by
  have h1 : nameB ({ data := #[97] } : ByteArray).data.toList = true := by decide
  unfold chkL okL
  simp only [List.length_cons, List.length_nil]
  rw [h1, gtB_nil h1]
  by_cases h : valueB s.data.toList = true
  · rw [h]; simp [okL]
  · have h2 : valueB s.data.toList = false := by simpa using h
    rw [h2]; simp
end Lb
/-- One new pair. -/
theorem RowQ.of_one (w : World) (s t : ByteArray) : RowQ (w.alloc (.cells #[.string s, .string t] 47)) (some ⟨w.heap.size, 0, none⟩) [(s, t)] :=
  RowQ.of_rowV (l := [(s, t)]) (RowV.new w [.string s, .string t] _)

end Go.Proofs.YtjmcpdhfefcdgaaDoor
