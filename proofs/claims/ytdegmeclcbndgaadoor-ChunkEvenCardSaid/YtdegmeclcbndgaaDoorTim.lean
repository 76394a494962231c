/- Times in bits, in plain lists and numbers. No program in sight. -/
import Derived.Test.YtdegmeclcbndgaaDoorBitP
import Derived.Test.YtdegmeclcbndgaaDoorBase
namespace Go.Proofs.YtdegmeclcbndgaaDoor
open Go.RowKit
namespace Tim
open Bit

/-- A change, in bits. -/
def encX (x : Int) : List Bool :=
  if x = 0 then [false]
  else if -63 ≤ x ∧ x ≤ 64 then bitsOf 2 2 ++ bitsOf (x + 63).toNat 7
  else if -255 ≤ x ∧ x ≤ 256 then bitsOf 6 3 ++ bitsOf (x + 255).toNat 9
  else if -2047 ≤ x ∧ x ≤ 2048 then bitsOf 14 4 ++ bitsOf (x + 2047).toNat 12
  else bitsOf 15 4 ++ bitsOf (IntKind.u64.wrap x).toNat 64

theorem encX_len (x : Int) : (encX x).length ≤ 68 := by
  unfold encX
  repeat' split
  all_goals simp [bitsOf_length]

/-- The coder: begun, the time ahead, the distance ahead. -/
structure St where
  b : Bool
  t : Int
  d : Int

def St.zero : St := ⟨false, 0, 0⟩
def chgX (s : St) (t : Int) : Int := wrap64 (wrap64 (t - s.t) - s.d)
def St.next (s : St) (t : Int) : St := if s.b then ⟨true, t, wrap64 (t - s.t)⟩ else ⟨true, t, s.d⟩
def encT (s : St) (t : Int) : List Bool := if s.b then encX (chgX s t) else bitsOf (IntKind.u64.wrap t).toNat 64

theorem encT_len (s : St) (t : Int) : (encT s t).length ≤ 68 := by
  unfold encT; split
  · exact encX_len _
  · rw [bitsOf_length]; omega
end Tim
end Go.Proofs.YtdegmeclcbndgaaDoor
