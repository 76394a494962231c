/-
  No cell of these rows narrows 'for every input' (looked for: loops, veiled, ifaces, maps, wideKeys, modest, calm, conditions, laid).
  DERIVED. THE GIVEN ROWS OF THIS SEAT. 12 by the template 'for every input the law returns true; each argument reads behind the call as it read before'; 0 by the template 'total and deterministic' (their statements: YtmaebileagfdaaaTotals.lean).
  GIVEN WITH THE SEED: the statements are not yours to turn. If you find one false, say at which input.
  Laid BY PROGRAM, IN A SANDBOX (cutbox-rows.mjs): the forced cells as the released guide's own fill.sh prints them over the translation 9817ba638bdb6c0e… (all of the seat's roots in one cut). By AI agents, Wed Nov 11 2026. No macro, syntax, notation, axiom, sorry.
-/
import Derived.Test.YtmaebileagfdaaaChecked
import GoSem.Claim
import GoSem.ClaimJoined
import GoSem.ClaimMapViews
import Derived.JoinedTies
import Derived.KernelRfl
namespace Go.Proofs.Ytmaebileagfdaaa
/- THE CELL 'sum', in the pinned program and in every row, IS THE sha256 OF THE DUMP (.gsa) THAT YtmaebileagfdaaaProg.lean LOADS. Nothing in Lean hashes anything: it is a label: what it is worth is what the hold of that sum in a sandbox is worth. -/
noncomputable def Try.pinned : Pinned := { name := "ytmaebileagfdaaa", sum := "9817ba638bdb6c0ef5c497739d3e05c92bc7d43583e3056ad243f730a42288c2", checked := Try.checked }
namespace Rows
def none {H : Type} : Left H := { results := [], args := [] }

/-- 'barographlaw22.SnapCuts': WHATEVER THE INPUT: true; the input reads as it did. -/
def snapCutsSpec : ChangeSpec := { name := "snapCuts", fn := fun _ => fun
  | [d1, d2] => { results := [.lit (.bool true)], args := [d1, d2] }
  | _ => none }
def snapCutsRow : OpenClaim := { program := "ytmaebileagfdaaa", sum := "9817ba638bdb6c0ef5c497739d3e05c92bc7d43583e3056ad243f730a42288c2", func := "barograph/barographlaw22.SnapCuts", spec := "snapCuts", apart := false }
def SnapCutsSaid : Prop := snapCutsRow.holds Try.pinned (OpenSpec.ofChange snapCutsSpec)

/-- ITS FALSE NEIGHBOUR: 'it returns false'. Refute it at one input. -/
def snapCutsWrong : ChangeSpec := { name := "snapCuts", fn := fun _ => fun
  | [d1, d2] => { results := [.lit (.bool false)], args := [d1, d2] }
  | _ => none }
def SnapCutsWrongFalsely : Prop := snapCutsRow.holds Try.pinned (OpenSpec.ofChange snapCutsWrong)

/-- 'barographlaw03.FrameWrites': WHATEVER THE INPUT: true; the input reads as it did. -/
def frameWritesSpec : ChangeSpec := { name := "frameWrites", fn := fun _ => fun
  | [d1, d2] => { results := [.lit (.bool true)], args := [d1, d2] }
  | _ => none }
def frameWritesRow : OpenClaim := { program := "ytmaebileagfdaaa", sum := "9817ba638bdb6c0ef5c497739d3e05c92bc7d43583e3056ad243f730a42288c2", func := "barograph/barographlaw03.FrameWrites", spec := "frameWrites", recurses := true, apart := false }
def FrameWritesSaid : Prop := frameWritesRow.holds Try.pinned (OpenSpec.ofChange frameWritesSpec)

/-- ITS FALSE NEIGHBOUR: 'it returns false'. Refute it at one input. -/
def frameWritesWrong : ChangeSpec := { name := "frameWrites", fn := fun _ => fun
  | [d1, d2] => { results := [.lit (.bool false)], args := [d1, d2] }
  | _ => none }
def FrameWritesWrongFalsely : Prop := frameWritesRow.holds Try.pinned (OpenSpec.ofChange frameWritesWrong)

/-- 'barographlaw22.SnapAdds': WHATEVER THE INPUT: true; the input reads as it did. -/
def snapAddsSpec : ChangeSpec := { name := "snapAdds", fn := fun _ => fun
  | [d] => { results := [.lit (.bool true)], args := [d] }
  | _ => none }
def snapAddsRow : OpenClaim := { program := "ytmaebileagfdaaa", sum := "9817ba638bdb6c0ef5c497739d3e05c92bc7d43583e3056ad243f730a42288c2", func := "barograph/barographlaw22.SnapAdds", spec := "snapAdds", apart := false }
def SnapAddsSaid : Prop := snapAddsRow.holds Try.pinned (OpenSpec.ofChange snapAddsSpec)

/-- ITS FALSE NEIGHBOUR: 'it returns false'. Refute it at one input. -/
def snapAddsWrong : ChangeSpec := { name := "snapAdds", fn := fun _ => fun
  | [d] => { results := [.lit (.bool false)], args := [d] }
  | _ => none }
def SnapAddsWrongFalsely : Prop := snapAddsRow.holds Try.pinned (OpenSpec.ofChange snapAddsWrong)

/-- 'barographlaw22.SnapBack': WHATEVER THE INPUT: true; the input reads as it did. -/
def snapBackSpec : ChangeSpec := { name := "snapBack", fn := fun _ => fun
  | [d1, d2, d3] => { results := [.lit (.bool true)], args := [d1, d2, d3] }
  | _ => none }
def snapBackRow : OpenClaim := { program := "ytmaebileagfdaaa", sum := "9817ba638bdb6c0ef5c497739d3e05c92bc7d43583e3056ad243f730a42288c2", func := "barograph/barographlaw22.SnapBack", spec := "snapBack", apart := false }
def SnapBackSaid : Prop := snapBackRow.holds Try.pinned (OpenSpec.ofChange snapBackSpec)

/-- ITS FALSE NEIGHBOUR: 'it returns false'. Refute it at one input. -/
def snapBackWrong : ChangeSpec := { name := "snapBack", fn := fun _ => fun
  | [d1, d2, d3] => { results := [.lit (.bool false)], args := [d1, d2, d3] }
  | _ => none }
def SnapBackWrongFalsely : Prop := snapBackRow.holds Try.pinned (OpenSpec.ofChange snapBackWrong)

/-- 'barographlaw22.SnapOther': WHATEVER THE INPUT: true; the input reads as it did. -/
def snapOtherSpec : ChangeSpec := { name := "snapOther", fn := fun _ => fun
  | [d1, d2, d3, d4] => { results := [.lit (.bool true)], args := [d1, d2, d3, d4] }
  | _ => none }
def snapOtherRow : OpenClaim := { program := "ytmaebileagfdaaa", sum := "9817ba638bdb6c0ef5c497739d3e05c92bc7d43583e3056ad243f730a42288c2", func := "barograph/barographlaw22.SnapOther", spec := "snapOther", apart := false }
def SnapOtherSaid : Prop := snapOtherRow.holds Try.pinned (OpenSpec.ofChange snapOtherSpec)

/-- ITS FALSE NEIGHBOUR: 'it returns false'. Refute it at one input. -/
def snapOtherWrong : ChangeSpec := { name := "snapOther", fn := fun _ => fun
  | [d1, d2, d3, d4] => { results := [.lit (.bool false)], args := [d1, d2, d3, d4] }
  | _ => none }
def SnapOtherWrongFalsely : Prop := snapOtherRow.holds Try.pinned (OpenSpec.ofChange snapOtherWrong)

/-- 'barographlaw03.FrameReads': WHATEVER THE INPUT: true; the input reads as it did. -/
def frameReadsSpec : ChangeSpec := { name := "frameReads", fn := fun _ => fun
  | [d] => { results := [.lit (.bool true)], args := [d] }
  | _ => none }
def frameReadsRow : OpenClaim := { program := "ytmaebileagfdaaa", sum := "9817ba638bdb6c0ef5c497739d3e05c92bc7d43583e3056ad243f730a42288c2", func := "barograph/barographlaw03.FrameReads", spec := "frameReads", unfollowed := true, recurses := true, apart := false }
def FrameReadsSaid : Prop := frameReadsRow.holds Try.pinned (OpenSpec.ofChange frameReadsSpec)

/-- ITS FALSE NEIGHBOUR: 'it returns false'. Refute it at one input. -/
def frameReadsWrong : ChangeSpec := { name := "frameReads", fn := fun _ => fun
  | [d] => { results := [.lit (.bool false)], args := [d] }
  | _ => none }
def FrameReadsWrongFalsely : Prop := frameReadsRow.holds Try.pinned (OpenSpec.ofChange frameReadsWrong)

/-- 'barographlaw03.FrameTells': WHATEVER THE INPUT: true; the input reads as it did. -/
def frameTellsSpec : ChangeSpec := { name := "frameTells", fn := fun _ => fun
  | [d1, d2, d3, d4] => { results := [.lit (.bool true)], args := [d1, d2, d3, d4] }
  | _ => none }
def frameTellsRow : OpenClaim := { program := "ytmaebileagfdaaa", sum := "9817ba638bdb6c0ef5c497739d3e05c92bc7d43583e3056ad243f730a42288c2", func := "barograph/barographlaw03.FrameTells", spec := "frameTells", apart := false }
def FrameTellsSaid : Prop := frameTellsRow.holds Try.pinned (OpenSpec.ofChange frameTellsSpec)

/-- ITS FALSE NEIGHBOUR: 'it returns false'. Refute it at one input. -/
def frameTellsWrong : ChangeSpec := { name := "frameTells", fn := fun _ => fun
  | [d1, d2, d3, d4] => { results := [.lit (.bool false)], args := [d1, d2, d3, d4] }
  | _ => none }
def FrameTellsWrongFalsely : Prop := frameTellsRow.holds Try.pinned (OpenSpec.ofChange frameTellsWrong)

/-- 'barographlaw03.FrameLimits': WHATEVER THE INPUT: true; the input reads as it did. -/
def frameLimitsSpec : ChangeSpec := { name := "frameLimits", fn := fun _ => fun
  | [d1, d2] => { results := [.lit (.bool true)], args := [d1, d2] }
  | _ => none }
def frameLimitsRow : OpenClaim := { program := "ytmaebileagfdaaa", sum := "9817ba638bdb6c0ef5c497739d3e05c92bc7d43583e3056ad243f730a42288c2", func := "barograph/barographlaw03.FrameLimits", spec := "frameLimits", apart := false }
def FrameLimitsSaid : Prop := frameLimitsRow.holds Try.pinned (OpenSpec.ofChange frameLimitsSpec)

/-- ITS FALSE NEIGHBOUR: 'it returns false'. Refute it at one input. -/
def frameLimitsWrong : ChangeSpec := { name := "frameLimits", fn := fun _ => fun
  | [d1, d2] => { results := [.lit (.bool false)], args := [d1, d2] }
  | _ => none }
def FrameLimitsWrongFalsely : Prop := frameLimitsRow.holds Try.pinned (OpenSpec.ofChange frameLimitsWrong)

/-- 'barographlaw03.FrameBack': WHATEVER THE INPUT: true; the input reads as it did. -/
def frameBackSpec : ChangeSpec := { name := "frameBack", fn := fun _ => fun
  | [d1, d2] => { results := [.lit (.bool true)], args := [d1, d2] }
  | _ => none }
def frameBackRow : OpenClaim := { program := "ytmaebileagfdaaa", sum := "9817ba638bdb6c0ef5c497739d3e05c92bc7d43583e3056ad243f730a42288c2", func := "barograph/barographlaw03.FrameBack", spec := "frameBack", unfollowed := true, recurses := true, apart := false }
def FrameBackSaid : Prop := frameBackRow.holds Try.pinned (OpenSpec.ofChange frameBackSpec)

/-- ITS FALSE NEIGHBOUR: 'it returns false'. Refute it at one input. -/
def frameBackWrong : ChangeSpec := { name := "frameBack", fn := fun _ => fun
  | [d1, d2] => { results := [.lit (.bool false)], args := [d1, d2] }
  | _ => none }
def FrameBackWrongFalsely : Prop := frameBackRow.holds Try.pinned (OpenSpec.ofChange frameBackWrong)

/-- 'barographlaw19.WireReads': WHATEVER THE INPUT: true; the input reads as it did. -/
def wireReadsSpec : ChangeSpec := { name := "wireReads", fn := fun _ => fun
  | [d] => { results := [.lit (.bool true)], args := [d] }
  | _ => none }
def wireReadsRow : OpenClaim := { program := "ytmaebileagfdaaa", sum := "9817ba638bdb6c0ef5c497739d3e05c92bc7d43583e3056ad243f730a42288c2", func := "barograph/barographlaw19.WireReads", spec := "wireReads", apart := false }
def WireReadsSaid : Prop := wireReadsRow.holds Try.pinned (OpenSpec.ofChange wireReadsSpec)

/-- ITS FALSE NEIGHBOUR: 'it returns false'. Refute it at one input. -/
def wireReadsWrong : ChangeSpec := { name := "wireReads", fn := fun _ => fun
  | [d] => { results := [.lit (.bool false)], args := [d] }
  | _ => none }
def WireReadsWrongFalsely : Prop := wireReadsRow.holds Try.pinned (OpenSpec.ofChange wireReadsWrong)

/-- 'barographlaw19.WireChanged': WHATEVER THE INPUT: true; the input reads as it did. -/
def wireChangedSpec : ChangeSpec := { name := "wireChanged", fn := fun _ => fun
  | [d1, d2, d3] => { results := [.lit (.bool true)], args := [d1, d2, d3] }
  | _ => none }
def wireChangedRow : OpenClaim := { program := "ytmaebileagfdaaa", sum := "9817ba638bdb6c0ef5c497739d3e05c92bc7d43583e3056ad243f730a42288c2", func := "barograph/barographlaw19.WireChanged", spec := "wireChanged", inPlace := ["internal/abi.NoEscape"], apart := false }
def WireChangedSaid : Prop := wireChangedRow.holds Try.pinned (OpenSpec.ofChange wireChangedSpec)

/-- ITS FALSE NEIGHBOUR: 'it returns false'. Refute it at one input. -/
def wireChangedWrong : ChangeSpec := { name := "wireChanged", fn := fun _ => fun
  | [d1, d2, d3] => { results := [.lit (.bool false)], args := [d1, d2, d3] }
  | _ => none }
def WireChangedWrongFalsely : Prop := wireChangedRow.holds Try.pinned (OpenSpec.ofChange wireChangedWrong)

/-- 'barographlaw19.WireKinds': WHATEVER THE INPUT: true; the input reads as it did. -/
def wireKindsSpec : ChangeSpec := { name := "wireKinds", fn := fun _ => fun
  | [d1, d2, d3] => { results := [.lit (.bool true)], args := [d1, d2, d3] }
  | _ => none }
def wireKindsRow : OpenClaim := { program := "ytmaebileagfdaaa", sum := "9817ba638bdb6c0ef5c497739d3e05c92bc7d43583e3056ad243f730a42288c2", func := "barograph/barographlaw19.WireKinds", spec := "wireKinds", inPlace := ["internal/abi.NoEscape"], apart := false }
def WireKindsSaid : Prop := wireKindsRow.holds Try.pinned (OpenSpec.ofChange wireKindsSpec)

/-- ITS FALSE NEIGHBOUR: 'it returns false'. Refute it at one input. -/
def wireKindsWrong : ChangeSpec := { name := "wireKinds", fn := fun _ => fun
  | [d1, d2, d3] => { results := [.lit (.bool false)], args := [d1, d2, d3] }
  | _ => none }
def WireKindsWrongFalsely : Prop := wireKindsRow.holds Try.pinned (OpenSpec.ofChange wireKindsWrong)

/- THE SECOND FORM. 'bulk': how many values and letters a reading holds, each counted each time it is reached (what is shared counts as often as it is met; a slice's spare places count too). A statement '..UptoSaid' is the law's where the arguments, and the package variables that the reading takes, are together of bulk at most 1048576: NARROWER than '..Said'. Prove '..Said' where nothing that the law and all that it calls make is longer than what came in: it says more and counts as full. Else prove '..UptoSaid'. A law counts once. -/
mutual
def uptoBulk {H : Type} : DataW H → Nat
  | .lit (.string bytes) => bytes.length + 1
  | .lit _ => 1
  | .nil => 1
  | .ptr d => uptoBulk d + 1
  | .slice elems spare => uptoBulkAll elems + uptoBulkAll spare + 1
  | .agg parts => uptoBulkAll parts + 1
  | .iface _ d => uptoBulk d + 1
  | .map entries => uptoBulkEntries entries + 1
  | .held _ => 1
def uptoBulkAll {H : Type} : List (DataW H) → Nat
  | [] => 0
  | d :: r => uptoBulk d + uptoBulkAll r
def uptoBulkEntries {H : Type} : List (Lit × DataW H) → Nat
  | [] => 0
  | x :: r => uptoBulkEntry x + uptoBulkEntries r
def uptoBulkEntry {H : Type} : Lit × DataW H → Nat
  | (.string bytes, d) => bytes.length + uptoBulk d + 1
  | (_, d) => uptoBulk d + 1
 end
def uptoSmall : (H : Type) → List (DataW H) → Bool := fun _ ds => decide (uptoBulkAll ds ≤ 1048576)
def OpenSpec.upto (s : _root_.Go.ChangeSpec) : _root_.Go.OpenSpec := { _root_.Go.OpenSpec.ofChange s with cond := some uptoSmall }

/-- 'barographlaw22.SnapCuts', WHERE WHAT IT READS IS OF BULK AT MOST 1048576: true; the input reads as it did. -/
def snapCutsUptoRow : OpenClaim := { program := "ytmaebileagfdaaa", sum := "9817ba638bdb6c0ef5c497739d3e05c92bc7d43583e3056ad243f730a42288c2", func := "barograph/barographlaw22.SnapCuts", spec := "snapCuts", apart := false, narrowed := true }
def SnapCutsUptoSaid : Prop := snapCutsUptoRow.holds Try.pinned (OpenSpec.upto snapCutsSpec)

/-- 'barographlaw03.FrameWrites', WHERE WHAT IT READS IS OF BULK AT MOST 1048576: true; the input reads as it did. -/
def frameWritesUptoRow : OpenClaim := { program := "ytmaebileagfdaaa", sum := "9817ba638bdb6c0ef5c497739d3e05c92bc7d43583e3056ad243f730a42288c2", func := "barograph/barographlaw03.FrameWrites", spec := "frameWrites", recurses := true, apart := false, narrowed := true }
def FrameWritesUptoSaid : Prop := frameWritesUptoRow.holds Try.pinned (OpenSpec.upto frameWritesSpec)

/-- 'barographlaw22.SnapAdds', WHERE WHAT IT READS IS OF BULK AT MOST 1048576: true; the input reads as it did. -/
def snapAddsUptoRow : OpenClaim := { program := "ytmaebileagfdaaa", sum := "9817ba638bdb6c0ef5c497739d3e05c92bc7d43583e3056ad243f730a42288c2", func := "barograph/barographlaw22.SnapAdds", spec := "snapAdds", apart := false, narrowed := true }
def SnapAddsUptoSaid : Prop := snapAddsUptoRow.holds Try.pinned (OpenSpec.upto snapAddsSpec)

/-- 'barographlaw22.SnapBack', WHERE WHAT IT READS IS OF BULK AT MOST 1048576: true; the input reads as it did. -/
def snapBackUptoRow : OpenClaim := { program := "ytmaebileagfdaaa", sum := "9817ba638bdb6c0ef5c497739d3e05c92bc7d43583e3056ad243f730a42288c2", func := "barograph/barographlaw22.SnapBack", spec := "snapBack", apart := false, narrowed := true }
def SnapBackUptoSaid : Prop := snapBackUptoRow.holds Try.pinned (OpenSpec.upto snapBackSpec)

/-- 'barographlaw22.SnapOther', WHERE WHAT IT READS IS OF BULK AT MOST 1048576: true; the input reads as it did. -/
def snapOtherUptoRow : OpenClaim := { program := "ytmaebileagfdaaa", sum := "9817ba638bdb6c0ef5c497739d3e05c92bc7d43583e3056ad243f730a42288c2", func := "barograph/barographlaw22.SnapOther", spec := "snapOther", apart := false, narrowed := true }
def SnapOtherUptoSaid : Prop := snapOtherUptoRow.holds Try.pinned (OpenSpec.upto snapOtherSpec)

/-- 'barographlaw03.FrameReads', WHERE WHAT IT READS IS OF BULK AT MOST 1048576: true; the input reads as it did. -/
def frameReadsUptoRow : OpenClaim := { program := "ytmaebileagfdaaa", sum := "9817ba638bdb6c0ef5c497739d3e05c92bc7d43583e3056ad243f730a42288c2", func := "barograph/barographlaw03.FrameReads", spec := "frameReads", unfollowed := true, recurses := true, apart := false, narrowed := true }
def FrameReadsUptoSaid : Prop := frameReadsUptoRow.holds Try.pinned (OpenSpec.upto frameReadsSpec)

/-- 'barographlaw03.FrameTells', WHERE WHAT IT READS IS OF BULK AT MOST 1048576: true; the input reads as it did. -/
def frameTellsUptoRow : OpenClaim := { program := "ytmaebileagfdaaa", sum := "9817ba638bdb6c0ef5c497739d3e05c92bc7d43583e3056ad243f730a42288c2", func := "barograph/barographlaw03.FrameTells", spec := "frameTells", apart := false, narrowed := true }
def FrameTellsUptoSaid : Prop := frameTellsUptoRow.holds Try.pinned (OpenSpec.upto frameTellsSpec)

/-- 'barographlaw03.FrameLimits', WHERE WHAT IT READS IS OF BULK AT MOST 1048576: true; the input reads as it did. -/
def frameLimitsUptoRow : OpenClaim := { program := "ytmaebileagfdaaa", sum := "9817ba638bdb6c0ef5c497739d3e05c92bc7d43583e3056ad243f730a42288c2", func := "barograph/barographlaw03.FrameLimits", spec := "frameLimits", apart := false, narrowed := true }
def FrameLimitsUptoSaid : Prop := frameLimitsUptoRow.holds Try.pinned (OpenSpec.upto frameLimitsSpec)

/-- 'barographlaw03.FrameBack', WHERE WHAT IT READS IS OF BULK AT MOST 1048576: true; the input reads as it did. -/
def frameBackUptoRow : OpenClaim := { program := "ytmaebileagfdaaa", sum := "9817ba638bdb6c0ef5c497739d3e05c92bc7d43583e3056ad243f730a42288c2", func := "barograph/barographlaw03.FrameBack", spec := "frameBack", unfollowed := true, recurses := true, apart := false, narrowed := true }
def FrameBackUptoSaid : Prop := frameBackUptoRow.holds Try.pinned (OpenSpec.upto frameBackSpec)

/-- 'barographlaw19.WireReads', WHERE WHAT IT READS IS OF BULK AT MOST 1048576: true; the input reads as it did. -/
def wireReadsUptoRow : OpenClaim := { program := "ytmaebileagfdaaa", sum := "9817ba638bdb6c0ef5c497739d3e05c92bc7d43583e3056ad243f730a42288c2", func := "barograph/barographlaw19.WireReads", spec := "wireReads", apart := false, narrowed := true }
def WireReadsUptoSaid : Prop := wireReadsUptoRow.holds Try.pinned (OpenSpec.upto wireReadsSpec)

/-- 'barographlaw19.WireChanged', WHERE WHAT IT READS IS OF BULK AT MOST 1048576: true; the input reads as it did. -/
def wireChangedUptoRow : OpenClaim := { program := "ytmaebileagfdaaa", sum := "9817ba638bdb6c0ef5c497739d3e05c92bc7d43583e3056ad243f730a42288c2", func := "barograph/barographlaw19.WireChanged", spec := "wireChanged", inPlace := ["internal/abi.NoEscape"], apart := false, narrowed := true }
def WireChangedUptoSaid : Prop := wireChangedUptoRow.holds Try.pinned (OpenSpec.upto wireChangedSpec)

/-- 'barographlaw19.WireKinds', WHERE WHAT IT READS IS OF BULK AT MOST 1048576: true; the input reads as it did. -/
def wireKindsUptoRow : OpenClaim := { program := "ytmaebileagfdaaa", sum := "9817ba638bdb6c0ef5c497739d3e05c92bc7d43583e3056ad243f730a42288c2", func := "barograph/barographlaw19.WireKinds", spec := "wireKinds", inPlace := ["internal/abi.NoEscape"], apart := false, narrowed := true }
def WireKindsUptoSaid : Prop := wireKindsUptoRow.holds Try.pinned (OpenSpec.upto wireKindsSpec)

end Rows
end Go.Proofs.Ytmaebileagfdaaa
