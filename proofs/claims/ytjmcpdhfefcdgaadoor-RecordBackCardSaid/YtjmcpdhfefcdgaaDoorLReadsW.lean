/- The law of labels that are read. -/
import Derived.Test.YtjmcpdhfefcdgaaDoorLh
namespace Go.Proofs.YtjmcpdhfefcdgaaDoor
open Go.RowKit Lb Dig Inn

namespace Lb
theorem cmpL_self (l : List Pr) : cmpL l l = 0 := by
  induction l with
  | nil => rfl
  | cons p l ih => simp [cmpL, ih]
theorem decL_len (s : List UInt8) : (decL s).1.length ≤ 8 := by
  unfold decL finD
  split
  · simp
  · split
    · simp
    · split
      · simp
      · rename_i h; simp only [ne_eq, Classical.not_not] at h; exact (chkL_ok h).2.1
end Lb

end Go.Proofs.YtjmcpdhfefcdgaaDoor
