/-
  No cell of these rows narrows 'for every input' (looked for: loops, veiled, ifaces, maps, wideKeys, modest, calm, conditions, laid).
  DERIVED. THE GIVEN ROWS OF THIS SEAT. 9 by the template 'for every input the law returns true; each argument reads behind the call as it read before'; 0 by the template 'total and deterministic' (their statements: YtknpcbildcbbnaaTotals.lean).
  GIVEN WITH THE SEED: the statements are not yours to turn. If you find one false, say at which input.
  Laid BY PROGRAM, IN A SANDBOX (cutbox-rows.mjs): the forced cells as the released guide's own fill.sh prints them over the translation c67a3a85eff17d3c… (all of the seat's roots in one cut). By AI agents, Wed Nov 11 2026. No macro, syntax, notation, axiom, sorry.
-/
import Derived.Test.YtknpcbildcbbnaaChecked
import GoSem.Claim
import GoSem.ClaimJoined
import GoSem.ClaimMapViews
import Derived.JoinedTies
import Derived.KernelRfl
namespace Go.Proofs.Ytknpcbildcbbnaa
/- THE CELL 'sum', in the pinned program and in every row, IS THE sha256 OF THE DUMP (.gsa) THAT YtknpcbildcbbnaaProg.lean LOADS. Nothing in Lean hashes anything: it is a label: what it is worth is what the hold of that sum in a sandbox is worth. -/
noncomputable def Try.pinned : Pinned := { name := "ytknpcbildcbbnaa", sum := "c67a3a85eff17d3c92155bc2516c683c80d84966172b52e75edee86c44566fb9", checked := Try.checked }
namespace Rows
def none {H : Type} : Left H := { results := [], args := [] }

/-- 'barographlaw06.BitsWrites': WHATEVER THE INPUT: true; the input reads as it did. -/
def bitsWritesSpec : ChangeSpec := { name := "bitsWrites", fn := fun _ => fun
  | [d] => { results := [.lit (.bool true)], args := [d] }
  | _ => none }
def bitsWritesRow : OpenClaim := { program := "ytknpcbildcbbnaa", sum := "c67a3a85eff17d3c92155bc2516c683c80d84966172b52e75edee86c44566fb9", func := "barograph/barographlaw06.BitsWrites", spec := "bitsWrites", apart := false }
def BitsWritesSaid : Prop := bitsWritesRow.holds Try.pinned (OpenSpec.ofChange bitsWritesSpec)

/-- ITS FALSE NEIGHBOUR: 'it returns false'. Refute it at one input. -/
def bitsWritesWrong : ChangeSpec := { name := "bitsWrites", fn := fun _ => fun
  | [d] => { results := [.lit (.bool false)], args := [d] }
  | _ => none }
def BitsWritesWrongFalsely : Prop := bitsWritesRow.holds Try.pinned (OpenSpec.ofChange bitsWritesWrong)

/-- 'barographlaw06.BitsReads': WHATEVER THE INPUT: true; the input reads as it did. -/
def bitsReadsSpec : ChangeSpec := { name := "bitsReads", fn := fun _ => fun
  | [d1, d2, d3] => { results := [.lit (.bool true)], args := [d1, d2, d3] }
  | _ => none }
def bitsReadsRow : OpenClaim := { program := "ytknpcbildcbbnaa", sum := "c67a3a85eff17d3c92155bc2516c683c80d84966172b52e75edee86c44566fb9", func := "barograph/barographlaw06.BitsReads", spec := "bitsReads", apart := false }
def BitsReadsSaid : Prop := bitsReadsRow.holds Try.pinned (OpenSpec.ofChange bitsReadsSpec)

/-- ITS FALSE NEIGHBOUR: 'it returns false'. Refute it at one input. -/
def bitsReadsWrong : ChangeSpec := { name := "bitsReads", fn := fun _ => fun
  | [d1, d2, d3] => { results := [.lit (.bool false)], args := [d1, d2, d3] }
  | _ => none }
def BitsReadsWrongFalsely : Prop := bitsReadsRow.holds Try.pinned (OpenSpec.ofChange bitsReadsWrong)

/-- 'barographlaw06.BitsBack': WHATEVER THE INPUT: true; the input reads as it did. -/
def bitsBackSpec : ChangeSpec := { name := "bitsBack", fn := fun _ => fun
  | [d] => { results := [.lit (.bool true)], args := [d] }
  | _ => none }
def bitsBackRow : OpenClaim := { program := "ytknpcbildcbbnaa", sum := "c67a3a85eff17d3c92155bc2516c683c80d84966172b52e75edee86c44566fb9", func := "barograph/barographlaw06.BitsBack", spec := "bitsBack", apart := false }
def BitsBackSaid : Prop := bitsBackRow.holds Try.pinned (OpenSpec.ofChange bitsBackSpec)

/-- ITS FALSE NEIGHBOUR: 'it returns false'. Refute it at one input. -/
def bitsBackWrong : ChangeSpec := { name := "bitsBack", fn := fun _ => fun
  | [d] => { results := [.lit (.bool false)], args := [d] }
  | _ => none }
def BitsBackWrongFalsely : Prop := bitsBackRow.holds Try.pinned (OpenSpec.ofChange bitsBackWrong)

/-- 'barographlaw06.BitsFill': WHATEVER THE INPUT: true; the input reads as it did. -/
def bitsFillSpec : ChangeSpec := { name := "bitsFill", fn := fun _ => fun
  | [d1, d2, d3] => { results := [.lit (.bool true)], args := [d1, d2, d3] }
  | _ => none }
def bitsFillRow : OpenClaim := { program := "ytknpcbildcbbnaa", sum := "c67a3a85eff17d3c92155bc2516c683c80d84966172b52e75edee86c44566fb9", func := "barograph/barographlaw06.BitsFill", spec := "bitsFill", apart := false }
def BitsFillSaid : Prop := bitsFillRow.holds Try.pinned (OpenSpec.ofChange bitsFillSpec)

/-- ITS FALSE NEIGHBOUR: 'it returns false'. Refute it at one input. -/
def bitsFillWrong : ChangeSpec := { name := "bitsFill", fn := fun _ => fun
  | [d1, d2, d3] => { results := [.lit (.bool false)], args := [d1, d2, d3] }
  | _ => none }
def BitsFillWrongFalsely : Prop := bitsFillRow.holds Try.pinned (OpenSpec.ofChange bitsFillWrong)

/-- 'barographlaw08.TimesWrites': WHATEVER THE INPUT: true; the input reads as it did. -/
def timesWritesSpec : ChangeSpec := { name := "timesWrites", fn := fun _ => fun
  | [d] => { results := [.lit (.bool true)], args := [d] }
  | _ => none }
def timesWritesRow : OpenClaim := { program := "ytknpcbildcbbnaa", sum := "c67a3a85eff17d3c92155bc2516c683c80d84966172b52e75edee86c44566fb9", func := "barograph/barographlaw08.TimesWrites", spec := "timesWrites", apart := false }
def TimesWritesSaid : Prop := timesWritesRow.holds Try.pinned (OpenSpec.ofChange timesWritesSpec)

/-- ITS FALSE NEIGHBOUR: 'it returns false'. Refute it at one input. -/
def timesWritesWrong : ChangeSpec := { name := "timesWrites", fn := fun _ => fun
  | [d] => { results := [.lit (.bool false)], args := [d] }
  | _ => none }
def TimesWritesWrongFalsely : Prop := timesWritesRow.holds Try.pinned (OpenSpec.ofChange timesWritesWrong)

/-- 'barographlaw08.TimesReads': WHATEVER THE INPUT: true; the input reads as it did. -/
def timesReadsSpec : ChangeSpec := { name := "timesReads", fn := fun _ => fun
  | [d1, d2] => { results := [.lit (.bool true)], args := [d1, d2] }
  | _ => none }
def timesReadsRow : OpenClaim := { program := "ytknpcbildcbbnaa", sum := "c67a3a85eff17d3c92155bc2516c683c80d84966172b52e75edee86c44566fb9", func := "barograph/barographlaw08.TimesReads", spec := "timesReads", apart := false }
def TimesReadsSaid : Prop := timesReadsRow.holds Try.pinned (OpenSpec.ofChange timesReadsSpec)

/-- ITS FALSE NEIGHBOUR: 'it returns false'. Refute it at one input. -/
def timesReadsWrong : ChangeSpec := { name := "timesReads", fn := fun _ => fun
  | [d1, d2] => { results := [.lit (.bool false)], args := [d1, d2] }
  | _ => none }
def TimesReadsWrongFalsely : Prop := timesReadsRow.holds Try.pinned (OpenSpec.ofChange timesReadsWrong)

/-- 'barographlaw08.TimesBack': WHATEVER THE INPUT: true; the input reads as it did. -/
def timesBackSpec : ChangeSpec := { name := "timesBack", fn := fun _ => fun
  | [d] => { results := [.lit (.bool true)], args := [d] }
  | _ => none }
def timesBackRow : OpenClaim := { program := "ytknpcbildcbbnaa", sum := "c67a3a85eff17d3c92155bc2516c683c80d84966172b52e75edee86c44566fb9", func := "barograph/barographlaw08.TimesBack", spec := "timesBack", apart := false }
def TimesBackSaid : Prop := timesBackRow.holds Try.pinned (OpenSpec.ofChange timesBackSpec)

/-- ITS FALSE NEIGHBOUR: 'it returns false'. Refute it at one input. -/
def timesBackWrong : ChangeSpec := { name := "timesBack", fn := fun _ => fun
  | [d] => { results := [.lit (.bool false)], args := [d] }
  | _ => none }
def TimesBackWrongFalsely : Prop := timesBackRow.holds Try.pinned (OpenSpec.ofChange timesBackWrong)

/-- 'barographlaw08.TimesEven': WHATEVER THE INPUT: true; the input reads as it did. -/
def timesEvenSpec : ChangeSpec := { name := "timesEven", fn := fun _ => fun
  | [d1, d2, d3] => { results := [.lit (.bool true)], args := [d1, d2, d3] }
  | _ => none }
def timesEvenRow : OpenClaim := { program := "ytknpcbildcbbnaa", sum := "c67a3a85eff17d3c92155bc2516c683c80d84966172b52e75edee86c44566fb9", func := "barograph/barographlaw08.TimesEven", spec := "timesEven", apart := false }
def TimesEvenSaid : Prop := timesEvenRow.holds Try.pinned (OpenSpec.ofChange timesEvenSpec)

/-- ITS FALSE NEIGHBOUR: 'it returns false'. Refute it at one input. -/
def timesEvenWrong : ChangeSpec := { name := "timesEven", fn := fun _ => fun
  | [d1, d2, d3] => { results := [.lit (.bool false)], args := [d1, d2, d3] }
  | _ => none }
def TimesEvenWrongFalsely : Prop := timesEvenRow.holds Try.pinned (OpenSpec.ofChange timesEvenWrong)

/-- 'barographlaw08.TimesCost': WHATEVER THE INPUT: true; the input reads as it did. -/
def timesCostSpec : ChangeSpec := { name := "timesCost", fn := fun _ => fun
  | [d1, d2, d3] => { results := [.lit (.bool true)], args := [d1, d2, d3] }
  | _ => none }
def timesCostRow : OpenClaim := { program := "ytknpcbildcbbnaa", sum := "c67a3a85eff17d3c92155bc2516c683c80d84966172b52e75edee86c44566fb9", func := "barograph/barographlaw08.TimesCost", spec := "timesCost", apart := false }
def TimesCostSaid : Prop := timesCostRow.holds Try.pinned (OpenSpec.ofChange timesCostSpec)

/-- ITS FALSE NEIGHBOUR: 'it returns false'. Refute it at one input. -/
def timesCostWrong : ChangeSpec := { name := "timesCost", fn := fun _ => fun
  | [d1, d2, d3] => { results := [.lit (.bool false)], args := [d1, d2, d3] }
  | _ => none }
def TimesCostWrongFalsely : Prop := timesCostRow.holds Try.pinned (OpenSpec.ofChange timesCostWrong)

/- THE SECOND FORM. 'bulk': how many values and letters a reading holds, each counted each time it is reached (what is shared counts as often as it is met; a slice's spare places count too). A statement '..UptoSaid' is the law's where the arguments, and the package variables that the reading takes, are together of bulk at most 1048576: NARROWER than '..Said'. Prove '..Said' where nothing that the law and all that it calls make is longer than what came in: it says more and counts as full. Else prove '..UptoSaid'. A law counts once. -/
mutual
def uptoBulk {H : Type} : DataW H → Nat
  | .lit (.string bytes) => bytes.length + 1
  | .lit _ => 1
  | .nil => 1
  | .ptr d => uptoBulk d + 1
  | .slice elems spare => uptoBulkAll elems + uptoBulkAll spare + 1
  | .agg parts => uptoBulkAll parts + 1
  | .iface _ d => uptoBulk d + 1
  | .map entries => uptoBulkEntries entries + 1
  | .held _ => 1
def uptoBulkAll {H : Type} : List (DataW H) → Nat
  | [] => 0
  | d :: r => uptoBulk d + uptoBulkAll r
def uptoBulkEntries {H : Type} : List (Lit × DataW H) → Nat
  | [] => 0
  | x :: r => uptoBulkEntry x + uptoBulkEntries r
def uptoBulkEntry {H : Type} : Lit × DataW H → Nat
  | (.string bytes, d) => bytes.length + uptoBulk d + 1
  | (_, d) => uptoBulk d + 1
 end
def uptoSmall : (H : Type) → List (DataW H) → Bool := fun _ ds => decide (uptoBulkAll ds ≤ 1048576)
def OpenSpec.upto (s : _root_.Go.ChangeSpec) : _root_.Go.OpenSpec := { _root_.Go.OpenSpec.ofChange s with cond := some uptoSmall }

/-- 'barographlaw06.BitsWrites', WHERE WHAT IT READS IS OF BULK AT MOST 1048576: true; the input reads as it did. -/
def bitsWritesUptoRow : OpenClaim := { program := "ytknpcbildcbbnaa", sum := "c67a3a85eff17d3c92155bc2516c683c80d84966172b52e75edee86c44566fb9", func := "barograph/barographlaw06.BitsWrites", spec := "bitsWrites", apart := false, narrowed := true }
def BitsWritesUptoSaid : Prop := bitsWritesUptoRow.holds Try.pinned (OpenSpec.upto bitsWritesSpec)

/-- 'barographlaw06.BitsReads', WHERE WHAT IT READS IS OF BULK AT MOST 1048576: true; the input reads as it did. -/
def bitsReadsUptoRow : OpenClaim := { program := "ytknpcbildcbbnaa", sum := "c67a3a85eff17d3c92155bc2516c683c80d84966172b52e75edee86c44566fb9", func := "barograph/barographlaw06.BitsReads", spec := "bitsReads", apart := false, narrowed := true }
def BitsReadsUptoSaid : Prop := bitsReadsUptoRow.holds Try.pinned (OpenSpec.upto bitsReadsSpec)

/-- 'barographlaw06.BitsBack', WHERE WHAT IT READS IS OF BULK AT MOST 1048576: true; the input reads as it did. -/
def bitsBackUptoRow : OpenClaim := { program := "ytknpcbildcbbnaa", sum := "c67a3a85eff17d3c92155bc2516c683c80d84966172b52e75edee86c44566fb9", func := "barograph/barographlaw06.BitsBack", spec := "bitsBack", apart := false, narrowed := true }
def BitsBackUptoSaid : Prop := bitsBackUptoRow.holds Try.pinned (OpenSpec.upto bitsBackSpec)

/-- 'barographlaw06.BitsFill', WHERE WHAT IT READS IS OF BULK AT MOST 1048576: true; the input reads as it did. -/
def bitsFillUptoRow : OpenClaim := { program := "ytknpcbildcbbnaa", sum := "c67a3a85eff17d3c92155bc2516c683c80d84966172b52e75edee86c44566fb9", func := "barograph/barographlaw06.BitsFill", spec := "bitsFill", apart := false, narrowed := true }
def BitsFillUptoSaid : Prop := bitsFillUptoRow.holds Try.pinned (OpenSpec.upto bitsFillSpec)

/-- 'barographlaw08.TimesWrites', WHERE WHAT IT READS IS OF BULK AT MOST 1048576: true; the input reads as it did. -/
def timesWritesUptoRow : OpenClaim := { program := "ytknpcbildcbbnaa", sum := "c67a3a85eff17d3c92155bc2516c683c80d84966172b52e75edee86c44566fb9", func := "barograph/barographlaw08.TimesWrites", spec := "timesWrites", apart := false, narrowed := true }
def TimesWritesUptoSaid : Prop := timesWritesUptoRow.holds Try.pinned (OpenSpec.upto timesWritesSpec)

/-- 'barographlaw08.TimesReads', WHERE WHAT IT READS IS OF BULK AT MOST 1048576: true; the input reads as it did. -/
def timesReadsUptoRow : OpenClaim := { program := "ytknpcbildcbbnaa", sum := "c67a3a85eff17d3c92155bc2516c683c80d84966172b52e75edee86c44566fb9", func := "barograph/barographlaw08.TimesReads", spec := "timesReads", apart := false, narrowed := true }
def TimesReadsUptoSaid : Prop := timesReadsUptoRow.holds Try.pinned (OpenSpec.upto timesReadsSpec)

/-- 'barographlaw08.TimesBack', WHERE WHAT IT READS IS OF BULK AT MOST 1048576: true; the input reads as it did. -/
def timesBackUptoRow : OpenClaim := { program := "ytknpcbildcbbnaa", sum := "c67a3a85eff17d3c92155bc2516c683c80d84966172b52e75edee86c44566fb9", func := "barograph/barographlaw08.TimesBack", spec := "timesBack", apart := false, narrowed := true }
def TimesBackUptoSaid : Prop := timesBackUptoRow.holds Try.pinned (OpenSpec.upto timesBackSpec)

/-- 'barographlaw08.TimesEven', WHERE WHAT IT READS IS OF BULK AT MOST 1048576: true; the input reads as it did. -/
def timesEvenUptoRow : OpenClaim := { program := "ytknpcbildcbbnaa", sum := "c67a3a85eff17d3c92155bc2516c683c80d84966172b52e75edee86c44566fb9", func := "barograph/barographlaw08.TimesEven", spec := "timesEven", apart := false, narrowed := true }
def TimesEvenUptoSaid : Prop := timesEvenUptoRow.holds Try.pinned (OpenSpec.upto timesEvenSpec)

/-- 'barographlaw08.TimesCost', WHERE WHAT IT READS IS OF BULK AT MOST 1048576: true; the input reads as it did. -/
def timesCostUptoRow : OpenClaim := { program := "ytknpcbildcbbnaa", sum := "c67a3a85eff17d3c92155bc2516c683c80d84966172b52e75edee86c44566fb9", func := "barograph/barographlaw08.TimesCost", spec := "timesCost", apart := false, narrowed := true }
def TimesCostUptoSaid : Prop := timesCostUptoRow.holds Try.pinned (OpenSpec.upto timesCostSpec)

end Rows
end Go.Proofs.Ytknpcbildcbbnaa
