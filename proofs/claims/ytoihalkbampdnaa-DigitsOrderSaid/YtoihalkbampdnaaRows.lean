/-
  No cell of these rows narrows 'for every input' (looked for: loops, veiled, ifaces, maps, wideKeys, modest, calm, conditions, laid).
  DERIVED. THE GIVEN ROWS OF THIS SEAT. 12 by the template 'for every input the law returns true; each argument reads behind the call as it read before'; 0 by the template 'total and deterministic' (their statements: YtoihalkbampdnaaTotals.lean).
  GIVEN WITH THE SEED: the statements are not yours to turn. If you find one false, say at which input.
  Laid BY PROGRAM, IN A SANDBOX (cutbox-rows.mjs): the forced cells as the released guide's own fill.sh prints them over the translation 0ab331850796e70d… (all of the seat's roots in one cut). By AI agents, Wed Nov 11 2026. No macro, syntax, notation, axiom, sorry.
-/
import Derived.Test.YtoihalkbampdnaaChecked
import GoSem.Claim
import GoSem.ClaimJoined
import GoSem.ClaimMapViews
import Derived.JoinedTies
import Derived.KernelRfl
namespace Go.Proofs.Ytoihalkbampdnaa
/- THE CELL 'sum', in the pinned program and in every row, IS THE sha256 OF THE DUMP (.gsa) THAT YtoihalkbampdnaaProg.lean LOADS. Nothing in Lean hashes anything: it is a label: what it is worth is what the hold of that sum in a sandbox is worth. -/
noncomputable def Try.pinned : Pinned := { name := "ytoihalkbampdnaa", sum := "0ab331850796e70dcb0c322bed95a8a0ee01aae2e01bc4b097a66360907dbcac", checked := Try.checked }
namespace Rows
def none {H : Type} : Left H := { results := [], args := [] }

/-- 'barographlaw02.SumTells': WHATEVER THE INPUT: true; the input reads as it did. -/
def sumTellsSpec : ChangeSpec := { name := "sumTells", fn := fun _ => fun
  | [d1, d2] => { results := [.lit (.bool true)], args := [d1, d2] }
  | _ => none }
def sumTellsRow : OpenClaim := { program := "ytoihalkbampdnaa", sum := "0ab331850796e70dcb0c322bed95a8a0ee01aae2e01bc4b097a66360907dbcac", func := "barograph/barographlaw02.SumTells", spec := "sumTells", apart := false }
def SumTellsSaid : Prop := sumTellsRow.holds Try.pinned (OpenSpec.ofChange sumTellsSpec)

/-- ITS FALSE NEIGHBOUR: 'it returns false'. Refute it at one input. -/
def sumTellsWrong : ChangeSpec := { name := "sumTells", fn := fun _ => fun
  | [d1, d2] => { results := [.lit (.bool false)], args := [d1, d2] }
  | _ => none }
def SumTellsWrongFalsely : Prop := sumTellsRow.holds Try.pinned (OpenSpec.ofChange sumTellsWrong)

/-- 'barographlaw02.SumParts': WHATEVER THE INPUT: true; the input reads as it did. -/
def sumPartsSpec : ChangeSpec := { name := "sumParts", fn := fun _ => fun
  | [d1, d2] => { results := [.lit (.bool true)], args := [d1, d2] }
  | _ => none }
def sumPartsRow : OpenClaim := { program := "ytoihalkbampdnaa", sum := "0ab331850796e70dcb0c322bed95a8a0ee01aae2e01bc4b097a66360907dbcac", func := "barograph/barographlaw02.SumParts", spec := "sumParts", apart := false }
def SumPartsSaid : Prop := sumPartsRow.holds Try.pinned (OpenSpec.ofChange sumPartsSpec)

/-- ITS FALSE NEIGHBOUR: 'it returns false'. Refute it at one input. -/
def sumPartsWrong : ChangeSpec := { name := "sumParts", fn := fun _ => fun
  | [d1, d2] => { results := [.lit (.bool false)], args := [d1, d2] }
  | _ => none }
def SumPartsWrongFalsely : Prop := sumPartsRow.holds Try.pinned (OpenSpec.ofChange sumPartsWrong)

/-- 'barographlaw02.SumBursts': WHATEVER THE INPUT: true; the input reads as it did. -/
def sumBurstsSpec : ChangeSpec := { name := "sumBursts", fn := fun _ => fun
  | [d1, d2, d3] => { results := [.lit (.bool true)], args := [d1, d2, d3] }
  | _ => none }
def sumBurstsRow : OpenClaim := { program := "ytoihalkbampdnaa", sum := "0ab331850796e70dcb0c322bed95a8a0ee01aae2e01bc4b097a66360907dbcac", func := "barograph/barographlaw02.SumBursts", spec := "sumBursts", apart := false }
def SumBurstsSaid : Prop := sumBurstsRow.holds Try.pinned (OpenSpec.ofChange sumBurstsSpec)

/-- ITS FALSE NEIGHBOUR: 'it returns false'. Refute it at one input. -/
def sumBurstsWrong : ChangeSpec := { name := "sumBursts", fn := fun _ => fun
  | [d1, d2, d3] => { results := [.lit (.bool false)], args := [d1, d2, d3] }
  | _ => none }
def SumBurstsWrongFalsely : Prop := sumBurstsRow.holds Try.pinned (OpenSpec.ofChange sumBurstsWrong)

/-- 'barographlaw02.SumBytes': WHATEVER THE INPUT: true; the input reads as it did. -/
def sumBytesSpec : ChangeSpec := { name := "sumBytes", fn := fun _ => fun
  | [d1, d2, d3] => { results := [.lit (.bool true)], args := [d1, d2, d3] }
  | _ => none }
def sumBytesRow : OpenClaim := { program := "ytoihalkbampdnaa", sum := "0ab331850796e70dcb0c322bed95a8a0ee01aae2e01bc4b097a66360907dbcac", func := "barograph/barographlaw02.SumBytes", spec := "sumBytes", apart := false }
def SumBytesSaid : Prop := sumBytesRow.holds Try.pinned (OpenSpec.ofChange sumBytesSpec)

/-- ITS FALSE NEIGHBOUR: 'it returns false'. Refute it at one input. -/
def sumBytesWrong : ChangeSpec := { name := "sumBytes", fn := fun _ => fun
  | [d1, d2, d3] => { results := [.lit (.bool false)], args := [d1, d2, d3] }
  | _ => none }
def SumBytesWrongFalsely : Prop := sumBytesRow.holds Try.pinned (OpenSpec.ofChange sumBytesWrong)

/-- 'barographlaw01.DigitsNums': WHATEVER THE INPUT: true; the input reads as it did. -/
def digitsNumsSpec : ChangeSpec := { name := "digitsNums", fn := fun _ => fun
  | [d1, d2] => { results := [.lit (.bool true)], args := [d1, d2] }
  | _ => none }
def digitsNumsRow : OpenClaim := { program := "ytoihalkbampdnaa", sum := "0ab331850796e70dcb0c322bed95a8a0ee01aae2e01bc4b097a66360907dbcac", func := "barograph/barographlaw01.DigitsNums", spec := "digitsNums", recurses := true, apart := false }
def DigitsNumsSaid : Prop := digitsNumsRow.holds Try.pinned (OpenSpec.ofChange digitsNumsSpec)

/-- ITS FALSE NEIGHBOUR: 'it returns false'. Refute it at one input. -/
def digitsNumsWrong : ChangeSpec := { name := "digitsNums", fn := fun _ => fun
  | [d1, d2] => { results := [.lit (.bool false)], args := [d1, d2] }
  | _ => none }
def DigitsNumsWrongFalsely : Prop := digitsNumsRow.holds Try.pinned (OpenSpec.ofChange digitsNumsWrong)

/-- 'barographlaw01.DigitsOrder': WHATEVER THE INPUT: true; the input reads as it did. -/
def digitsOrderSpec : ChangeSpec := { name := "digitsOrder", fn := fun _ => fun
  | [d1, d2] => { results := [.lit (.bool true)], args := [d1, d2] }
  | _ => none }
def digitsOrderRow : OpenClaim := { program := "ytoihalkbampdnaa", sum := "0ab331850796e70dcb0c322bed95a8a0ee01aae2e01bc4b097a66360907dbcac", func := "barograph/barographlaw01.DigitsOrder", spec := "digitsOrder", apart := false }
def DigitsOrderSaid : Prop := digitsOrderRow.holds Try.pinned (OpenSpec.ofChange digitsOrderSpec)

/-- ITS FALSE NEIGHBOUR: 'it returns false'. Refute it at one input. -/
def digitsOrderWrong : ChangeSpec := { name := "digitsOrder", fn := fun _ => fun
  | [d1, d2] => { results := [.lit (.bool false)], args := [d1, d2] }
  | _ => none }
def DigitsOrderWrongFalsely : Prop := digitsOrderRow.holds Try.pinned (OpenSpec.ofChange digitsOrderWrong)

/-- 'barographlaw01.DigitsSizes': WHATEVER THE INPUT: true; the input reads as it did. -/
def digitsSizesSpec : ChangeSpec := { name := "digitsSizes", fn := fun _ => fun
  | [d1, d2] => { results := [.lit (.bool true)], args := [d1, d2] }
  | _ => none }
def digitsSizesRow : OpenClaim := { program := "ytoihalkbampdnaa", sum := "0ab331850796e70dcb0c322bed95a8a0ee01aae2e01bc4b097a66360907dbcac", func := "barograph/barographlaw01.DigitsSizes", spec := "digitsSizes", apart := false }
def DigitsSizesSaid : Prop := digitsSizesRow.holds Try.pinned (OpenSpec.ofChange digitsSizesSpec)

/-- ITS FALSE NEIGHBOUR: 'it returns false'. Refute it at one input. -/
def digitsSizesWrong : ChangeSpec := { name := "digitsSizes", fn := fun _ => fun
  | [d1, d2] => { results := [.lit (.bool false)], args := [d1, d2] }
  | _ => none }
def DigitsSizesWrongFalsely : Prop := digitsSizesRow.holds Try.pinned (OpenSpec.ofChange digitsSizesWrong)

/-- 'barographlaw01.DigitsSigns': WHATEVER THE INPUT: true; the input reads as it did. -/
def digitsSignsSpec : ChangeSpec := { name := "digitsSigns", fn := fun _ => fun
  | [d1, d2] => { results := [.lit (.bool true)], args := [d1, d2] }
  | _ => none }
def digitsSignsRow : OpenClaim := { program := "ytoihalkbampdnaa", sum := "0ab331850796e70dcb0c322bed95a8a0ee01aae2e01bc4b097a66360907dbcac", func := "barograph/barographlaw01.DigitsSigns", spec := "digitsSigns", recurses := true, apart := false }
def DigitsSignsSaid : Prop := digitsSignsRow.holds Try.pinned (OpenSpec.ofChange digitsSignsSpec)

/-- ITS FALSE NEIGHBOUR: 'it returns false'. Refute it at one input. -/
def digitsSignsWrong : ChangeSpec := { name := "digitsSigns", fn := fun _ => fun
  | [d1, d2] => { results := [.lit (.bool false)], args := [d1, d2] }
  | _ => none }
def DigitsSignsWrongFalsely : Prop := digitsSignsRow.holds Try.pinned (OpenSpec.ofChange digitsSignsWrong)

/-- 'barographlaw01.DigitsBack': WHATEVER THE INPUT: true; the input reads as it did. -/
def digitsBackSpec : ChangeSpec := { name := "digitsBack", fn := fun _ => fun
  | [d1, d2, d3] => { results := [.lit (.bool true)], args := [d1, d2, d3] }
  | _ => none }
def digitsBackRow : OpenClaim := { program := "ytoihalkbampdnaa", sum := "0ab331850796e70dcb0c322bed95a8a0ee01aae2e01bc4b097a66360907dbcac", func := "barograph/barographlaw01.DigitsBack", spec := "digitsBack", apart := false }
def DigitsBackSaid : Prop := digitsBackRow.holds Try.pinned (OpenSpec.ofChange digitsBackSpec)

/-- ITS FALSE NEIGHBOUR: 'it returns false'. Refute it at one input. -/
def digitsBackWrong : ChangeSpec := { name := "digitsBack", fn := fun _ => fun
  | [d1, d2, d3] => { results := [.lit (.bool false)], args := [d1, d2, d3] }
  | _ => none }
def DigitsBackWrongFalsely : Prop := digitsBackRow.holds Try.pinned (OpenSpec.ofChange digitsBackWrong)

/-- 'barographlaw01.DigitsTexts': WHATEVER THE INPUT: true; the input reads as it did. -/
def digitsTextsSpec : ChangeSpec := { name := "digitsTexts", fn := fun _ => fun
  | [d1, d2, d3] => { results := [.lit (.bool true)], args := [d1, d2, d3] }
  | _ => none }
def digitsTextsRow : OpenClaim := { program := "ytoihalkbampdnaa", sum := "0ab331850796e70dcb0c322bed95a8a0ee01aae2e01bc4b097a66360907dbcac", func := "barograph/barographlaw01.DigitsTexts", spec := "digitsTexts", recurses := true, apart := false }
def DigitsTextsSaid : Prop := digitsTextsRow.holds Try.pinned (OpenSpec.ofChange digitsTextsSpec)

/-- ITS FALSE NEIGHBOUR: 'it returns false'. Refute it at one input. -/
def digitsTextsWrong : ChangeSpec := { name := "digitsTexts", fn := fun _ => fun
  | [d1, d2, d3] => { results := [.lit (.bool false)], args := [d1, d2, d3] }
  | _ => none }
def DigitsTextsWrongFalsely : Prop := digitsTextsRow.holds Try.pinned (OpenSpec.ofChange digitsTextsWrong)

/-- 'barographlaw01.DigitsTextBack': WHATEVER THE INPUT: true; the input reads as it did. -/
def digitsTextBackSpec : ChangeSpec := { name := "digitsTextBack", fn := fun _ => fun
  | [d1, d2] => { results := [.lit (.bool true)], args := [d1, d2] }
  | _ => none }
def digitsTextBackRow : OpenClaim := { program := "ytoihalkbampdnaa", sum := "0ab331850796e70dcb0c322bed95a8a0ee01aae2e01bc4b097a66360907dbcac", func := "barograph/barographlaw01.DigitsTextBack", spec := "digitsTextBack", apart := false }
def DigitsTextBackSaid : Prop := digitsTextBackRow.holds Try.pinned (OpenSpec.ofChange digitsTextBackSpec)

/-- ITS FALSE NEIGHBOUR: 'it returns false'. Refute it at one input. -/
def digitsTextBackWrong : ChangeSpec := { name := "digitsTextBack", fn := fun _ => fun
  | [d1, d2] => { results := [.lit (.bool false)], args := [d1, d2] }
  | _ => none }
def DigitsTextBackWrongFalsely : Prop := digitsTextBackRow.holds Try.pinned (OpenSpec.ofChange digitsTextBackWrong)

/-- 'barographlaw01.DigitsCuts': WHATEVER THE INPUT: true; the input reads as it did. -/
def digitsCutsSpec : ChangeSpec := { name := "digitsCuts", fn := fun _ => fun
  | [d1, d2, d3] => { results := [.lit (.bool true)], args := [d1, d2, d3] }
  | _ => none }
def digitsCutsRow : OpenClaim := { program := "ytoihalkbampdnaa", sum := "0ab331850796e70dcb0c322bed95a8a0ee01aae2e01bc4b097a66360907dbcac", func := "barograph/barographlaw01.DigitsCuts", spec := "digitsCuts", apart := false }
def DigitsCutsSaid : Prop := digitsCutsRow.holds Try.pinned (OpenSpec.ofChange digitsCutsSpec)

/-- ITS FALSE NEIGHBOUR: 'it returns false'. Refute it at one input. -/
def digitsCutsWrong : ChangeSpec := { name := "digitsCuts", fn := fun _ => fun
  | [d1, d2, d3] => { results := [.lit (.bool false)], args := [d1, d2, d3] }
  | _ => none }
def DigitsCutsWrongFalsely : Prop := digitsCutsRow.holds Try.pinned (OpenSpec.ofChange digitsCutsWrong)

/- THE SECOND FORM. 'bulk': how many values and letters a reading holds, each counted each time it is reached (what is shared counts as often as it is met; a slice's spare places count too). A statement '..UptoSaid' is the law's where the arguments, and the package variables that the reading takes, are together of bulk at most 1048576: NARROWER than '..Said'. Prove '..Said' where nothing that the law and all that it calls make is longer than what came in: it says more and counts as full. Else prove '..UptoSaid'. A law counts once. -/
mutual
def uptoBulk {H : Type} : DataW H → Nat
  | .lit (.string bytes) => bytes.length + 1
  | .lit _ => 1
  | .nil => 1
  | .ptr d => uptoBulk d + 1
  | .slice elems spare => uptoBulkAll elems + uptoBulkAll spare + 1
  | .agg parts => uptoBulkAll parts + 1
  | .iface _ d => uptoBulk d + 1
  | .map entries => uptoBulkEntries entries + 1
  | .held _ => 1
def uptoBulkAll {H : Type} : List (DataW H) → Nat
  | [] => 0
  | d :: r => uptoBulk d + uptoBulkAll r
def uptoBulkEntries {H : Type} : List (Lit × DataW H) → Nat
  | [] => 0
  | x :: r => uptoBulkEntry x + uptoBulkEntries r
def uptoBulkEntry {H : Type} : Lit × DataW H → Nat
  | (.string bytes, d) => bytes.length + uptoBulk d + 1
  | (_, d) => uptoBulk d + 1
 end
def uptoSmall : (H : Type) → List (DataW H) → Bool := fun _ ds => decide (uptoBulkAll ds ≤ 1048576)
def OpenSpec.upto (s : _root_.Go.ChangeSpec) : _root_.Go.OpenSpec := { _root_.Go.OpenSpec.ofChange s with cond := some uptoSmall }

/-- 'barographlaw02.SumTells', WHERE WHAT IT READS IS OF BULK AT MOST 1048576: true; the input reads as it did. -/
def sumTellsUptoRow : OpenClaim := { program := "ytoihalkbampdnaa", sum := "0ab331850796e70dcb0c322bed95a8a0ee01aae2e01bc4b097a66360907dbcac", func := "barograph/barographlaw02.SumTells", spec := "sumTells", apart := false, narrowed := true }
def SumTellsUptoSaid : Prop := sumTellsUptoRow.holds Try.pinned (OpenSpec.upto sumTellsSpec)

/-- 'barographlaw02.SumParts', WHERE WHAT IT READS IS OF BULK AT MOST 1048576: true; the input reads as it did. -/
def sumPartsUptoRow : OpenClaim := { program := "ytoihalkbampdnaa", sum := "0ab331850796e70dcb0c322bed95a8a0ee01aae2e01bc4b097a66360907dbcac", func := "barograph/barographlaw02.SumParts", spec := "sumParts", apart := false, narrowed := true }
def SumPartsUptoSaid : Prop := sumPartsUptoRow.holds Try.pinned (OpenSpec.upto sumPartsSpec)

/-- 'barographlaw02.SumBursts', WHERE WHAT IT READS IS OF BULK AT MOST 1048576: true; the input reads as it did. -/
def sumBurstsUptoRow : OpenClaim := { program := "ytoihalkbampdnaa", sum := "0ab331850796e70dcb0c322bed95a8a0ee01aae2e01bc4b097a66360907dbcac", func := "barograph/barographlaw02.SumBursts", spec := "sumBursts", apart := false, narrowed := true }
def SumBurstsUptoSaid : Prop := sumBurstsUptoRow.holds Try.pinned (OpenSpec.upto sumBurstsSpec)

/-- 'barographlaw02.SumBytes', WHERE WHAT IT READS IS OF BULK AT MOST 1048576: true; the input reads as it did. -/
def sumBytesUptoRow : OpenClaim := { program := "ytoihalkbampdnaa", sum := "0ab331850796e70dcb0c322bed95a8a0ee01aae2e01bc4b097a66360907dbcac", func := "barograph/barographlaw02.SumBytes", spec := "sumBytes", apart := false, narrowed := true }
def SumBytesUptoSaid : Prop := sumBytesUptoRow.holds Try.pinned (OpenSpec.upto sumBytesSpec)

/-- 'barographlaw01.DigitsNums', WHERE WHAT IT READS IS OF BULK AT MOST 1048576: true; the input reads as it did. -/
def digitsNumsUptoRow : OpenClaim := { program := "ytoihalkbampdnaa", sum := "0ab331850796e70dcb0c322bed95a8a0ee01aae2e01bc4b097a66360907dbcac", func := "barograph/barographlaw01.DigitsNums", spec := "digitsNums", recurses := true, apart := false, narrowed := true }
def DigitsNumsUptoSaid : Prop := digitsNumsUptoRow.holds Try.pinned (OpenSpec.upto digitsNumsSpec)

/-- 'barographlaw01.DigitsOrder', WHERE WHAT IT READS IS OF BULK AT MOST 1048576: true; the input reads as it did. -/
def digitsOrderUptoRow : OpenClaim := { program := "ytoihalkbampdnaa", sum := "0ab331850796e70dcb0c322bed95a8a0ee01aae2e01bc4b097a66360907dbcac", func := "barograph/barographlaw01.DigitsOrder", spec := "digitsOrder", apart := false, narrowed := true }
def DigitsOrderUptoSaid : Prop := digitsOrderUptoRow.holds Try.pinned (OpenSpec.upto digitsOrderSpec)

/-- 'barographlaw01.DigitsSizes', WHERE WHAT IT READS IS OF BULK AT MOST 1048576: true; the input reads as it did. -/
def digitsSizesUptoRow : OpenClaim := { program := "ytoihalkbampdnaa", sum := "0ab331850796e70dcb0c322bed95a8a0ee01aae2e01bc4b097a66360907dbcac", func := "barograph/barographlaw01.DigitsSizes", spec := "digitsSizes", apart := false, narrowed := true }
def DigitsSizesUptoSaid : Prop := digitsSizesUptoRow.holds Try.pinned (OpenSpec.upto digitsSizesSpec)

/-- 'barographlaw01.DigitsSigns', WHERE WHAT IT READS IS OF BULK AT MOST 1048576: true; the input reads as it did. -/
def digitsSignsUptoRow : OpenClaim := { program := "ytoihalkbampdnaa", sum := "0ab331850796e70dcb0c322bed95a8a0ee01aae2e01bc4b097a66360907dbcac", func := "barograph/barographlaw01.DigitsSigns", spec := "digitsSigns", recurses := true, apart := false, narrowed := true }
def DigitsSignsUptoSaid : Prop := digitsSignsUptoRow.holds Try.pinned (OpenSpec.upto digitsSignsSpec)

/-- 'barographlaw01.DigitsBack', WHERE WHAT IT READS IS OF BULK AT MOST 1048576: true; the input reads as it did. -/
def digitsBackUptoRow : OpenClaim := { program := "ytoihalkbampdnaa", sum := "0ab331850796e70dcb0c322bed95a8a0ee01aae2e01bc4b097a66360907dbcac", func := "barograph/barographlaw01.DigitsBack", spec := "digitsBack", apart := false, narrowed := true }
def DigitsBackUptoSaid : Prop := digitsBackUptoRow.holds Try.pinned (OpenSpec.upto digitsBackSpec)

/-- 'barographlaw01.DigitsTexts', WHERE WHAT IT READS IS OF BULK AT MOST 1048576: true; the input reads as it did. -/
def digitsTextsUptoRow : OpenClaim := { program := "ytoihalkbampdnaa", sum := "0ab331850796e70dcb0c322bed95a8a0ee01aae2e01bc4b097a66360907dbcac", func := "barograph/barographlaw01.DigitsTexts", spec := "digitsTexts", recurses := true, apart := false, narrowed := true }
def DigitsTextsUptoSaid : Prop := digitsTextsUptoRow.holds Try.pinned (OpenSpec.upto digitsTextsSpec)

/-- 'barographlaw01.DigitsTextBack', WHERE WHAT IT READS IS OF BULK AT MOST 1048576: true; the input reads as it did. -/
def digitsTextBackUptoRow : OpenClaim := { program := "ytoihalkbampdnaa", sum := "0ab331850796e70dcb0c322bed95a8a0ee01aae2e01bc4b097a66360907dbcac", func := "barograph/barographlaw01.DigitsTextBack", spec := "digitsTextBack", apart := false, narrowed := true }
def DigitsTextBackUptoSaid : Prop := digitsTextBackUptoRow.holds Try.pinned (OpenSpec.upto digitsTextBackSpec)

/-- 'barographlaw01.DigitsCuts', WHERE WHAT IT READS IS OF BULK AT MOST 1048576: true; the input reads as it did. -/
def digitsCutsUptoRow : OpenClaim := { program := "ytoihalkbampdnaa", sum := "0ab331850796e70dcb0c322bed95a8a0ee01aae2e01bc4b097a66360907dbcac", func := "barograph/barographlaw01.DigitsCuts", spec := "digitsCuts", apart := false, narrowed := true }
def DigitsCutsUptoSaid : Prop := digitsCutsUptoRow.holds Try.pinned (OpenSpec.upto digitsCutsSpec)

end Rows
end Go.Proofs.Ytoihalkbampdnaa
