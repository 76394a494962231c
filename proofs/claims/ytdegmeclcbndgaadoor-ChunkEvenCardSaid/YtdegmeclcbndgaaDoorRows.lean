/-
  NARROWER THAN 'FOR EVERY INPUT', by the rows' own cells (each row's printed sentence says how): XorWrites: laid · XorReads: laid · XorBack: laid · XorSame: laid · XorWindow: laid · ChunkWrites: laid · ChunkBack: laid · ChunkEven: laid · ChunkSplits: laid.
  DERIVED. THE GIVEN ROWS OF THIS SEAT. 9 by the template 'for every input the law returns true; each argument reads behind the call as it read before'; 0 by the template 'total and deterministic' (their statements: YtdegmeclcbndgaaDoorTotals.lean).
  GIVEN WITH THE SEED: the statements are not yours to turn. If you find one false, say at which input.
  Laid BY PROGRAM, IN A SANDBOX (cutbox-rows.mjs): the forced cells as the released guide's own fill.sh prints them over the translation 687c2c1ee0346f93… (all of the seat's roots in one cut). By AI agents, Wed Nov 11 2026. No macro, syntax, notation, axiom, sorry.
-/
import Derived.Test.YtdegmeclcbndgaaDoorChecked
import GoSem.Claim
import GoSem.ClaimJoined
import GoSem.ClaimMapViews
import Derived.JoinedTies
import Derived.KernelRfl
namespace Go.Proofs.YtdegmeclcbndgaaDoor
/- THE CELL 'sum', in the pinned program and in every row, IS THE sha256 OF THE DUMP (.gsa) THAT YtdegmeclcbndgaaDoorProg.lean LOADS. Nothing in Lean hashes anything: it is a label: what it is worth is what the hold of that sum in a sandbox is worth. -/
noncomputable def Tryd.pinned : Pinned := { name := "ytdegmeclcbndgaadoor", sum := "687c2c1ee0346f933342893aaa354f165a09d130aae14bcba8b32a868ea4d131", checked := Tryd.checked }
namespace Rows
def none {H : Type} : Left H := { results := [], args := [] }

/- WHAT THE LISTED PACKAGE-LEVEL VARIABLES READ AS WHEN THE CALL BEGINS. Each datum BY PROGRAM (the guide's laid-datum.mjs) off the statement by which the dump's own 'gosem.cut.vars' lays the variable. In a bare row this is a premise. The card (YtdegmeclcbndgaaDoorCards.lean) ties it to the program's text. -/
def laid_math_bits_deBruijn64tab {H : Type} : DataW H := .agg [.lit (.int .u8 0), .lit (.int .u8 1), .lit (.int .u8 56), .lit (.int .u8 2), .lit (.int .u8 57), .lit (.int .u8 49), .lit (.int .u8 28), .lit (.int .u8 3), .lit (.int .u8 61), .lit (.int .u8 58), .lit (.int .u8 42), .lit (.int .u8 50), .lit (.int .u8 38), .lit (.int .u8 29), .lit (.int .u8 17), .lit (.int .u8 4), .lit (.int .u8 62), .lit (.int .u8 47), .lit (.int .u8 59), .lit (.int .u8 36), .lit (.int .u8 45), .lit (.int .u8 43), .lit (.int .u8 51), .lit (.int .u8 22), .lit (.int .u8 53), .lit (.int .u8 39), .lit (.int .u8 33), .lit (.int .u8 30), .lit (.int .u8 24), .lit (.int .u8 18), .lit (.int .u8 12), .lit (.int .u8 5), .lit (.int .u8 63), .lit (.int .u8 55), .lit (.int .u8 48), .lit (.int .u8 27), .lit (.int .u8 60), .lit (.int .u8 41), .lit (.int .u8 37), .lit (.int .u8 16), .lit (.int .u8 46), .lit (.int .u8 35), .lit (.int .u8 44), .lit (.int .u8 21), .lit (.int .u8 52), .lit (.int .u8 32), .lit (.int .u8 23), .lit (.int .u8 11), .lit (.int .u8 54), .lit (.int .u8 26), .lit (.int .u8 40), .lit (.int .u8 15), .lit (.int .u8 34), .lit (.int .u8 20), .lit (.int .u8 31), .lit (.int .u8 10), .lit (.int .u8 25), .lit (.int .u8 14), .lit (.int .u8 19), .lit (.int .u8 9), .lit (.int .u8 13), .lit (.int .u8 8), .lit (.int .u8 7), .lit (.int .u8 6)]

/-- 'barographlaw07.XorWrites': WHATEVER THE INPUT: true; the input reads as it did. -/
def xorWritesSpec : ChangeSpec := { name := "xorWrites", fn := fun _ => fun
  | [d] => { results := [.lit (.bool true)], args := [d] }
  | _ => none }
def xorWritesRow : OpenClaim := { program := "ytdegmeclcbndgaadoor", sum := "687c2c1ee0346f933342893aaa354f165a09d130aae14bcba8b32a868ea4d131", func := "barograph/barographlaw07.XorWrites", spec := "xorWrites", named := ["math/bits.deBruijn64tab"], apart := false, laid := [("math/bits.deBruijn64tab", laid_math_bits_deBruijn64tab)] }
def XorWritesSaid : Prop := xorWritesRow.holds Tryd.pinned (OpenSpec.ofChange xorWritesSpec)

/-- ITS FALSE NEIGHBOUR: 'it returns false'. Refute it at one input. -/
def xorWritesWrong : ChangeSpec := { name := "xorWrites", fn := fun _ => fun
  | [d] => { results := [.lit (.bool false)], args := [d] }
  | _ => none }
def XorWritesWrongFalsely : Prop := xorWritesRow.holds Tryd.pinned (OpenSpec.ofChange xorWritesWrong)

/-- 'barographlaw07.XorReads': WHATEVER THE INPUT: true; the input reads as it did. -/
def xorReadsSpec : ChangeSpec := { name := "xorReads", fn := fun _ => fun
  | [d1, d2] => { results := [.lit (.bool true)], args := [d1, d2] }
  | _ => none }
def xorReadsRow : OpenClaim := { program := "ytdegmeclcbndgaadoor", sum := "687c2c1ee0346f933342893aaa354f165a09d130aae14bcba8b32a868ea4d131", func := "barograph/barographlaw07.XorReads", spec := "xorReads", named := ["math/bits.deBruijn64tab"], apart := false, laid := [("math/bits.deBruijn64tab", laid_math_bits_deBruijn64tab)] }
def XorReadsSaid : Prop := xorReadsRow.holds Tryd.pinned (OpenSpec.ofChange xorReadsSpec)

/-- ITS FALSE NEIGHBOUR: 'it returns false'. Refute it at one input. -/
def xorReadsWrong : ChangeSpec := { name := "xorReads", fn := fun _ => fun
  | [d1, d2] => { results := [.lit (.bool false)], args := [d1, d2] }
  | _ => none }
def XorReadsWrongFalsely : Prop := xorReadsRow.holds Tryd.pinned (OpenSpec.ofChange xorReadsWrong)

/-- 'barographlaw07.XorBack': WHATEVER THE INPUT: true; the input reads as it did. -/
def xorBackSpec : ChangeSpec := { name := "xorBack", fn := fun _ => fun
  | [d] => { results := [.lit (.bool true)], args := [d] }
  | _ => none }
def xorBackRow : OpenClaim := { program := "ytdegmeclcbndgaadoor", sum := "687c2c1ee0346f933342893aaa354f165a09d130aae14bcba8b32a868ea4d131", func := "barograph/barographlaw07.XorBack", spec := "xorBack", named := ["math/bits.deBruijn64tab"], apart := false, laid := [("math/bits.deBruijn64tab", laid_math_bits_deBruijn64tab)] }
def XorBackSaid : Prop := xorBackRow.holds Tryd.pinned (OpenSpec.ofChange xorBackSpec)

/-- ITS FALSE NEIGHBOUR: 'it returns false'. Refute it at one input. -/
def xorBackWrong : ChangeSpec := { name := "xorBack", fn := fun _ => fun
  | [d] => { results := [.lit (.bool false)], args := [d] }
  | _ => none }
def XorBackWrongFalsely : Prop := xorBackRow.holds Tryd.pinned (OpenSpec.ofChange xorBackWrong)

/-- 'barographlaw07.XorSame': WHATEVER THE INPUT: true; the input reads as it did. -/
def xorSameSpec : ChangeSpec := { name := "xorSame", fn := fun _ => fun
  | [d1, d2] => { results := [.lit (.bool true)], args := [d1, d2] }
  | _ => none }
def xorSameRow : OpenClaim := { program := "ytdegmeclcbndgaadoor", sum := "687c2c1ee0346f933342893aaa354f165a09d130aae14bcba8b32a868ea4d131", func := "barograph/barographlaw07.XorSame", spec := "xorSame", named := ["math/bits.deBruijn64tab"], apart := false, laid := [("math/bits.deBruijn64tab", laid_math_bits_deBruijn64tab)] }
def XorSameSaid : Prop := xorSameRow.holds Tryd.pinned (OpenSpec.ofChange xorSameSpec)

/-- ITS FALSE NEIGHBOUR: 'it returns false'. Refute it at one input. -/
def xorSameWrong : ChangeSpec := { name := "xorSame", fn := fun _ => fun
  | [d1, d2] => { results := [.lit (.bool false)], args := [d1, d2] }
  | _ => none }
def XorSameWrongFalsely : Prop := xorSameRow.holds Tryd.pinned (OpenSpec.ofChange xorSameWrong)

/-- 'barographlaw07.XorWindow': WHATEVER THE INPUT: true; the input reads as it did. -/
def xorWindowSpec : ChangeSpec := { name := "xorWindow", fn := fun _ => fun
  | [d1, d2, d3] => { results := [.lit (.bool true)], args := [d1, d2, d3] }
  | _ => none }
def xorWindowRow : OpenClaim := { program := "ytdegmeclcbndgaadoor", sum := "687c2c1ee0346f933342893aaa354f165a09d130aae14bcba8b32a868ea4d131", func := "barograph/barographlaw07.XorWindow", spec := "xorWindow", named := ["math/bits.deBruijn64tab"], apart := false, laid := [("math/bits.deBruijn64tab", laid_math_bits_deBruijn64tab)] }
def XorWindowSaid : Prop := xorWindowRow.holds Tryd.pinned (OpenSpec.ofChange xorWindowSpec)

/-- ITS FALSE NEIGHBOUR: 'it returns false'. Refute it at one input. -/
def xorWindowWrong : ChangeSpec := { name := "xorWindow", fn := fun _ => fun
  | [d1, d2, d3] => { results := [.lit (.bool false)], args := [d1, d2, d3] }
  | _ => none }
def XorWindowWrongFalsely : Prop := xorWindowRow.holds Tryd.pinned (OpenSpec.ofChange xorWindowWrong)

/-- 'barographlaw09.ChunkWrites': WHATEVER THE INPUT: true; the input reads as it did. -/
def chunkWritesSpec : ChangeSpec := { name := "chunkWrites", fn := fun _ => fun
  | [d] => { results := [.lit (.bool true)], args := [d] }
  | _ => none }
def chunkWritesRow : OpenClaim := { program := "ytdegmeclcbndgaadoor", sum := "687c2c1ee0346f933342893aaa354f165a09d130aae14bcba8b32a868ea4d131", func := "barograph/barographlaw09.ChunkWrites", spec := "chunkWrites", recurses := true, named := ["math/bits.deBruijn64tab"], apart := false, laid := [("math/bits.deBruijn64tab", laid_math_bits_deBruijn64tab)] }
def ChunkWritesSaid : Prop := chunkWritesRow.holds Tryd.pinned (OpenSpec.ofChange chunkWritesSpec)

/-- ITS FALSE NEIGHBOUR: 'it returns false'. Refute it at one input. -/
def chunkWritesWrong : ChangeSpec := { name := "chunkWrites", fn := fun _ => fun
  | [d] => { results := [.lit (.bool false)], args := [d] }
  | _ => none }
def ChunkWritesWrongFalsely : Prop := chunkWritesRow.holds Tryd.pinned (OpenSpec.ofChange chunkWritesWrong)

/-- 'barographlaw09.ChunkBack': WHATEVER THE INPUT: true; the input reads as it did. -/
def chunkBackSpec : ChangeSpec := { name := "chunkBack", fn := fun _ => fun
  | [d1, d2] => { results := [.lit (.bool true)], args := [d1, d2] }
  | _ => none }
def chunkBackRow : OpenClaim := { program := "ytdegmeclcbndgaadoor", sum := "687c2c1ee0346f933342893aaa354f165a09d130aae14bcba8b32a868ea4d131", func := "barograph/barographlaw09.ChunkBack", spec := "chunkBack", named := ["math/bits.deBruijn64tab"], apart := false, laid := [("math/bits.deBruijn64tab", laid_math_bits_deBruijn64tab)] }
def ChunkBackSaid : Prop := chunkBackRow.holds Tryd.pinned (OpenSpec.ofChange chunkBackSpec)

/-- ITS FALSE NEIGHBOUR: 'it returns false'. Refute it at one input. -/
def chunkBackWrong : ChangeSpec := { name := "chunkBack", fn := fun _ => fun
  | [d1, d2] => { results := [.lit (.bool false)], args := [d1, d2] }
  | _ => none }
def ChunkBackWrongFalsely : Prop := chunkBackRow.holds Tryd.pinned (OpenSpec.ofChange chunkBackWrong)

/-- 'barographlaw09.ChunkEven': WHATEVER THE INPUT: true; the input reads as it did. -/
def chunkEvenSpec : ChangeSpec := { name := "chunkEven", fn := fun _ => fun
  | [d1, d2, d3, d4] => { results := [.lit (.bool true)], args := [d1, d2, d3, d4] }
  | _ => none }
def chunkEvenRow : OpenClaim := { program := "ytdegmeclcbndgaadoor", sum := "687c2c1ee0346f933342893aaa354f165a09d130aae14bcba8b32a868ea4d131", func := "barograph/barographlaw09.ChunkEven", spec := "chunkEven", named := ["math/bits.deBruijn64tab"], apart := false, laid := [("math/bits.deBruijn64tab", laid_math_bits_deBruijn64tab)] }
def ChunkEvenSaid : Prop := chunkEvenRow.holds Tryd.pinned (OpenSpec.ofChange chunkEvenSpec)

/-- ITS FALSE NEIGHBOUR: 'it returns false'. Refute it at one input. -/
def chunkEvenWrong : ChangeSpec := { name := "chunkEven", fn := fun _ => fun
  | [d1, d2, d3, d4] => { results := [.lit (.bool false)], args := [d1, d2, d3, d4] }
  | _ => none }
def ChunkEvenWrongFalsely : Prop := chunkEvenRow.holds Tryd.pinned (OpenSpec.ofChange chunkEvenWrong)

/-- 'barographlaw09.ChunkSplits': WHATEVER THE INPUT: true; the input reads as it did. -/
def chunkSplitsSpec : ChangeSpec := { name := "chunkSplits", fn := fun _ => fun
  | [d] => { results := [.lit (.bool true)], args := [d] }
  | _ => none }
def chunkSplitsRow : OpenClaim := { program := "ytdegmeclcbndgaadoor", sum := "687c2c1ee0346f933342893aaa354f165a09d130aae14bcba8b32a868ea4d131", func := "barograph/barographlaw09.ChunkSplits", spec := "chunkSplits", named := ["math/bits.deBruijn64tab"], apart := false, laid := [("math/bits.deBruijn64tab", laid_math_bits_deBruijn64tab)] }
def ChunkSplitsSaid : Prop := chunkSplitsRow.holds Tryd.pinned (OpenSpec.ofChange chunkSplitsSpec)

/-- ITS FALSE NEIGHBOUR: 'it returns false'. Refute it at one input. -/
def chunkSplitsWrong : ChangeSpec := { name := "chunkSplits", fn := fun _ => fun
  | [d] => { results := [.lit (.bool false)], args := [d] }
  | _ => none }
def ChunkSplitsWrongFalsely : Prop := chunkSplitsRow.holds Tryd.pinned (OpenSpec.ofChange chunkSplitsWrong)

/- THE SECOND FORM. 'bulk': how many values and letters a reading holds, each counted each time it is reached (what is shared counts as often as it is met; a slice's spare places count too). A statement '..UptoSaid' is the law's where the arguments, and the package variables that the reading takes, are together of bulk at most 1048576: NARROWER than '..Said'. Prove '..Said' where nothing that the law and all that it calls make is longer than what came in: it says more and counts as full. Else prove '..UptoSaid'. A law counts once. -/
mutual
def uptoBulk {H : Type} : DataW H → Nat
  | .lit (.string bytes) => bytes.length + 1
  | .lit _ => 1
  | .nil => 1
  | .ptr d => uptoBulk d + 1
  | .slice elems spare => uptoBulkAll elems + uptoBulkAll spare + 1
  | .agg parts => uptoBulkAll parts + 1
  | .iface _ d => uptoBulk d + 1
  | .map entries => uptoBulkEntries entries + 1
  | .held _ => 1
def uptoBulkAll {H : Type} : List (DataW H) → Nat
  | [] => 0
  | d :: r => uptoBulk d + uptoBulkAll r
def uptoBulkEntries {H : Type} : List (Lit × DataW H) → Nat
  | [] => 0
  | x :: r => uptoBulkEntry x + uptoBulkEntries r
def uptoBulkEntry {H : Type} : Lit × DataW H → Nat
  | (.string bytes, d) => bytes.length + uptoBulk d + 1
  | (_, d) => uptoBulk d + 1
 end
def uptoSmall : (H : Type) → List (DataW H) → Bool := fun _ ds => decide (uptoBulkAll ds ≤ 1048576)
def OpenSpec.upto (s : _root_.Go.ChangeSpec) : _root_.Go.OpenSpec := { _root_.Go.OpenSpec.ofChange s with cond := some uptoSmall }

/-- 'barographlaw07.XorWrites', WHERE WHAT IT READS IS OF BULK AT MOST 1048576: true; the input reads as it did. -/
def xorWritesUptoRow : OpenClaim := { program := "ytdegmeclcbndgaadoor", sum := "687c2c1ee0346f933342893aaa354f165a09d130aae14bcba8b32a868ea4d131", func := "barograph/barographlaw07.XorWrites", spec := "xorWrites", named := ["math/bits.deBruijn64tab"], apart := false, laid := [("math/bits.deBruijn64tab", laid_math_bits_deBruijn64tab)], narrowed := true }
def XorWritesUptoSaid : Prop := xorWritesUptoRow.holds Tryd.pinned (OpenSpec.upto xorWritesSpec)

/-- 'barographlaw07.XorReads', WHERE WHAT IT READS IS OF BULK AT MOST 1048576: true; the input reads as it did. -/
def xorReadsUptoRow : OpenClaim := { program := "ytdegmeclcbndgaadoor", sum := "687c2c1ee0346f933342893aaa354f165a09d130aae14bcba8b32a868ea4d131", func := "barograph/barographlaw07.XorReads", spec := "xorReads", named := ["math/bits.deBruijn64tab"], apart := false, laid := [("math/bits.deBruijn64tab", laid_math_bits_deBruijn64tab)], narrowed := true }
def XorReadsUptoSaid : Prop := xorReadsUptoRow.holds Tryd.pinned (OpenSpec.upto xorReadsSpec)

/-- 'barographlaw07.XorBack', WHERE WHAT IT READS IS OF BULK AT MOST 1048576: true; the input reads as it did. -/
def xorBackUptoRow : OpenClaim := { program := "ytdegmeclcbndgaadoor", sum := "687c2c1ee0346f933342893aaa354f165a09d130aae14bcba8b32a868ea4d131", func := "barograph/barographlaw07.XorBack", spec := "xorBack", named := ["math/bits.deBruijn64tab"], apart := false, laid := [("math/bits.deBruijn64tab", laid_math_bits_deBruijn64tab)], narrowed := true }
def XorBackUptoSaid : Prop := xorBackUptoRow.holds Tryd.pinned (OpenSpec.upto xorBackSpec)

/-- 'barographlaw07.XorSame', WHERE WHAT IT READS IS OF BULK AT MOST 1048576: true; the input reads as it did. -/
def xorSameUptoRow : OpenClaim := { program := "ytdegmeclcbndgaadoor", sum := "687c2c1ee0346f933342893aaa354f165a09d130aae14bcba8b32a868ea4d131", func := "barograph/barographlaw07.XorSame", spec := "xorSame", named := ["math/bits.deBruijn64tab"], apart := false, laid := [("math/bits.deBruijn64tab", laid_math_bits_deBruijn64tab)], narrowed := true }
def XorSameUptoSaid : Prop := xorSameUptoRow.holds Tryd.pinned (OpenSpec.upto xorSameSpec)

/-- 'barographlaw07.XorWindow', WHERE WHAT IT READS IS OF BULK AT MOST 1048576: true; the input reads as it did. -/
def xorWindowUptoRow : OpenClaim := { program := "ytdegmeclcbndgaadoor", sum := "687c2c1ee0346f933342893aaa354f165a09d130aae14bcba8b32a868ea4d131", func := "barograph/barographlaw07.XorWindow", spec := "xorWindow", named := ["math/bits.deBruijn64tab"], apart := false, laid := [("math/bits.deBruijn64tab", laid_math_bits_deBruijn64tab)], narrowed := true }
def XorWindowUptoSaid : Prop := xorWindowUptoRow.holds Tryd.pinned (OpenSpec.upto xorWindowSpec)

/-- 'barographlaw09.ChunkWrites', WHERE WHAT IT READS IS OF BULK AT MOST 1048576: true; the input reads as it did. -/
def chunkWritesUptoRow : OpenClaim := { program := "ytdegmeclcbndgaadoor", sum := "687c2c1ee0346f933342893aaa354f165a09d130aae14bcba8b32a868ea4d131", func := "barograph/barographlaw09.ChunkWrites", spec := "chunkWrites", recurses := true, named := ["math/bits.deBruijn64tab"], apart := false, laid := [("math/bits.deBruijn64tab", laid_math_bits_deBruijn64tab)], narrowed := true }
def ChunkWritesUptoSaid : Prop := chunkWritesUptoRow.holds Tryd.pinned (OpenSpec.upto chunkWritesSpec)

/-- 'barographlaw09.ChunkBack', WHERE WHAT IT READS IS OF BULK AT MOST 1048576: true; the input reads as it did. -/
def chunkBackUptoRow : OpenClaim := { program := "ytdegmeclcbndgaadoor", sum := "687c2c1ee0346f933342893aaa354f165a09d130aae14bcba8b32a868ea4d131", func := "barograph/barographlaw09.ChunkBack", spec := "chunkBack", named := ["math/bits.deBruijn64tab"], apart := false, laid := [("math/bits.deBruijn64tab", laid_math_bits_deBruijn64tab)], narrowed := true }
def ChunkBackUptoSaid : Prop := chunkBackUptoRow.holds Tryd.pinned (OpenSpec.upto chunkBackSpec)

/-- 'barographlaw09.ChunkEven', WHERE WHAT IT READS IS OF BULK AT MOST 1048576: true; the input reads as it did. -/
def chunkEvenUptoRow : OpenClaim := { program := "ytdegmeclcbndgaadoor", sum := "687c2c1ee0346f933342893aaa354f165a09d130aae14bcba8b32a868ea4d131", func := "barograph/barographlaw09.ChunkEven", spec := "chunkEven", named := ["math/bits.deBruijn64tab"], apart := false, laid := [("math/bits.deBruijn64tab", laid_math_bits_deBruijn64tab)], narrowed := true }
def ChunkEvenUptoSaid : Prop := chunkEvenUptoRow.holds Tryd.pinned (OpenSpec.upto chunkEvenSpec)

/-- 'barographlaw09.ChunkSplits', WHERE WHAT IT READS IS OF BULK AT MOST 1048576: true; the input reads as it did. -/
def chunkSplitsUptoRow : OpenClaim := { program := "ytdegmeclcbndgaadoor", sum := "687c2c1ee0346f933342893aaa354f165a09d130aae14bcba8b32a868ea4d131", func := "barograph/barographlaw09.ChunkSplits", spec := "chunkSplits", named := ["math/bits.deBruijn64tab"], apart := false, laid := [("math/bits.deBruijn64tab", laid_math_bits_deBruijn64tab)], narrowed := true }
def ChunkSplitsUptoSaid : Prop := chunkSplitsUptoRow.holds Tryd.pinned (OpenSpec.upto chunkSplitsSpec)

end Rows
end Go.Proofs.YtdegmeclcbndgaaDoor
