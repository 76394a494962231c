/-
  DERIVED. GIVEN WITH THE SEED: THE CARDS: each row of YtdegmeclcbndgaaDoorRows.lean that lists a variable, with what it lists TIED to the program's text (the seventh form; the later family's looks); each row that meets fmt, with fmt's text TOLD by the authors' own Lean function (tested against real Go, not proved from fmt's source: count such statements apart). THE CARD IS WHAT COUNTS. Prove the row's statement (the work); the ties are given (YtdegmeclcbndgaaDoorTie.lean); close each card by the builder's one call (the guide's Derived/Test/ToyasCard.lean, 'card_holds'). Laid BY PROGRAM, IN A SANDBOX (cutbox-door.mjs). By AI agents, Wed Nov 11 2026. No macro, syntax, notation, axiom, sorry.
-/
import Derived.Test.YtdegmeclcbndgaaDoorRows
import GoSem.ClaimSeven
namespace Go.Proofs.YtdegmeclcbndgaaDoor
namespace Rows

/-- THE TIED CARD OF 'barographlaw07.XorWrites'. -/
def xorWritesCard : Claim7 := { stood := { row := xorWritesRow, standIns := [], harness := (true, "9153a3e9d1b2a59748a41365bcba6962e445f6bba6bb176f5543e66bbb064401"), looks := false }, kinds := [], alts := [], laidByText := true, laidKinds := [.data], laidTests := true, laidLooks := .later }
def XorWritesCardSaid : Prop := Claim7.holds Tryd.pinned (.plain (OpenSpec.ofChange xorWritesSpec)) xorWritesCard

/-- THE TIED CARD OF 'barographlaw07.XorReads'. -/
def xorReadsCard : Claim7 := { stood := { row := xorReadsRow, standIns := [], harness := (true, "9153a3e9d1b2a59748a41365bcba6962e445f6bba6bb176f5543e66bbb064401"), looks := false }, kinds := [], alts := [], laidByText := true, laidKinds := [.data], laidTests := true, laidLooks := .later }
def XorReadsCardSaid : Prop := Claim7.holds Tryd.pinned (.plain (OpenSpec.ofChange xorReadsSpec)) xorReadsCard

/-- THE TIED CARD OF 'barographlaw07.XorBack'. -/
def xorBackCard : Claim7 := { stood := { row := xorBackRow, standIns := [], harness := (true, "9153a3e9d1b2a59748a41365bcba6962e445f6bba6bb176f5543e66bbb064401"), looks := false }, kinds := [], alts := [], laidByText := true, laidKinds := [.data], laidTests := true, laidLooks := .later }
def XorBackCardSaid : Prop := Claim7.holds Tryd.pinned (.plain (OpenSpec.ofChange xorBackSpec)) xorBackCard

/-- THE TIED CARD OF 'barographlaw07.XorSame'. -/
def xorSameCard : Claim7 := { stood := { row := xorSameRow, standIns := [], harness := (true, "9153a3e9d1b2a59748a41365bcba6962e445f6bba6bb176f5543e66bbb064401"), looks := false }, kinds := [], alts := [], laidByText := true, laidKinds := [.data], laidTests := true, laidLooks := .later }
def XorSameCardSaid : Prop := Claim7.holds Tryd.pinned (.plain (OpenSpec.ofChange xorSameSpec)) xorSameCard

/-- THE TIED CARD OF 'barographlaw07.XorWindow'. -/
def xorWindowCard : Claim7 := { stood := { row := xorWindowRow, standIns := [], harness := (true, "9153a3e9d1b2a59748a41365bcba6962e445f6bba6bb176f5543e66bbb064401"), looks := false }, kinds := [], alts := [], laidByText := true, laidKinds := [.data], laidTests := true, laidLooks := .later }
def XorWindowCardSaid : Prop := Claim7.holds Tryd.pinned (.plain (OpenSpec.ofChange xorWindowSpec)) xorWindowCard

/-- THE TIED CARD OF 'barographlaw09.ChunkWrites'. -/
def chunkWritesCard : Claim7 := { stood := { row := chunkWritesRow, standIns := [], harness := (true, "9153a3e9d1b2a59748a41365bcba6962e445f6bba6bb176f5543e66bbb064401"), looks := false }, kinds := [], alts := [], laidByText := true, laidKinds := [.data], laidTests := true, laidLooks := .later }
def ChunkWritesCardSaid : Prop := Claim7.holds Tryd.pinned (.plain (OpenSpec.ofChange chunkWritesSpec)) chunkWritesCard

/-- THE TIED CARD OF 'barographlaw09.ChunkBack'. -/
def chunkBackCard : Claim7 := { stood := { row := chunkBackRow, standIns := [], harness := (true, "9153a3e9d1b2a59748a41365bcba6962e445f6bba6bb176f5543e66bbb064401"), looks := false }, kinds := [], alts := [], laidByText := true, laidKinds := [.data], laidTests := true, laidLooks := .later }
def ChunkBackCardSaid : Prop := Claim7.holds Tryd.pinned (.plain (OpenSpec.ofChange chunkBackSpec)) chunkBackCard

/-- THE TIED CARD OF 'barographlaw09.ChunkEven'. -/
def chunkEvenCard : Claim7 := { stood := { row := chunkEvenRow, standIns := [], harness := (true, "9153a3e9d1b2a59748a41365bcba6962e445f6bba6bb176f5543e66bbb064401"), looks := false }, kinds := [], alts := [], laidByText := true, laidKinds := [.data], laidTests := true, laidLooks := .later }
def ChunkEvenCardSaid : Prop := Claim7.holds Tryd.pinned (.plain (OpenSpec.ofChange chunkEvenSpec)) chunkEvenCard

/-- THE TIED CARD OF 'barographlaw09.ChunkSplits'. -/
def chunkSplitsCard : Claim7 := { stood := { row := chunkSplitsRow, standIns := [], harness := (true, "9153a3e9d1b2a59748a41365bcba6962e445f6bba6bb176f5543e66bbb064401"), looks := false }, kinds := [], alts := [], laidByText := true, laidKinds := [.data], laidTests := true, laidLooks := .later }
def ChunkSplitsCardSaid : Prop := Claim7.holds Tryd.pinned (.plain (OpenSpec.ofChange chunkSplitsSpec)) chunkSplitsCard

/-- THE SECOND FORM's CARD OF 'barographlaw07.XorWrites'. -/
def xorWritesUptoCard : Claim7 := { stood := { row := xorWritesUptoRow, standIns := [], harness := (true, "9153a3e9d1b2a59748a41365bcba6962e445f6bba6bb176f5543e66bbb064401"), looks := false }, kinds := [], alts := [], laidByText := true, laidKinds := [.data], laidTests := true, laidLooks := .later }
def XorWritesUptoCardSaid : Prop := Claim7.holds Tryd.pinned (.plain (OpenSpec.upto xorWritesSpec)) xorWritesUptoCard

/-- THE SECOND FORM's CARD OF 'barographlaw07.XorReads'. -/
def xorReadsUptoCard : Claim7 := { stood := { row := xorReadsUptoRow, standIns := [], harness := (true, "9153a3e9d1b2a59748a41365bcba6962e445f6bba6bb176f5543e66bbb064401"), looks := false }, kinds := [], alts := [], laidByText := true, laidKinds := [.data], laidTests := true, laidLooks := .later }
def XorReadsUptoCardSaid : Prop := Claim7.holds Tryd.pinned (.plain (OpenSpec.upto xorReadsSpec)) xorReadsUptoCard

/-- THE SECOND FORM's CARD OF 'barographlaw07.XorBack'. -/
def xorBackUptoCard : Claim7 := { stood := { row := xorBackUptoRow, standIns := [], harness := (true, "9153a3e9d1b2a59748a41365bcba6962e445f6bba6bb176f5543e66bbb064401"), looks := false }, kinds := [], alts := [], laidByText := true, laidKinds := [.data], laidTests := true, laidLooks := .later }
def XorBackUptoCardSaid : Prop := Claim7.holds Tryd.pinned (.plain (OpenSpec.upto xorBackSpec)) xorBackUptoCard

/-- THE SECOND FORM's CARD OF 'barographlaw07.XorSame'. -/
def xorSameUptoCard : Claim7 := { stood := { row := xorSameUptoRow, standIns := [], harness := (true, "9153a3e9d1b2a59748a41365bcba6962e445f6bba6bb176f5543e66bbb064401"), looks := false }, kinds := [], alts := [], laidByText := true, laidKinds := [.data], laidTests := true, laidLooks := .later }
def XorSameUptoCardSaid : Prop := Claim7.holds Tryd.pinned (.plain (OpenSpec.upto xorSameSpec)) xorSameUptoCard

/-- THE SECOND FORM's CARD OF 'barographlaw07.XorWindow'. -/
def xorWindowUptoCard : Claim7 := { stood := { row := xorWindowUptoRow, standIns := [], harness := (true, "9153a3e9d1b2a59748a41365bcba6962e445f6bba6bb176f5543e66bbb064401"), looks := false }, kinds := [], alts := [], laidByText := true, laidKinds := [.data], laidTests := true, laidLooks := .later }
def XorWindowUptoCardSaid : Prop := Claim7.holds Tryd.pinned (.plain (OpenSpec.upto xorWindowSpec)) xorWindowUptoCard

/-- THE SECOND FORM's CARD OF 'barographlaw09.ChunkWrites'. -/
def chunkWritesUptoCard : Claim7 := { stood := { row := chunkWritesUptoRow, standIns := [], harness := (true, "9153a3e9d1b2a59748a41365bcba6962e445f6bba6bb176f5543e66bbb064401"), looks := false }, kinds := [], alts := [], laidByText := true, laidKinds := [.data], laidTests := true, laidLooks := .later }
def ChunkWritesUptoCardSaid : Prop := Claim7.holds Tryd.pinned (.plain (OpenSpec.upto chunkWritesSpec)) chunkWritesUptoCard

/-- THE SECOND FORM's CARD OF 'barographlaw09.ChunkBack'. -/
def chunkBackUptoCard : Claim7 := { stood := { row := chunkBackUptoRow, standIns := [], harness := (true, "9153a3e9d1b2a59748a41365bcba6962e445f6bba6bb176f5543e66bbb064401"), looks := false }, kinds := [], alts := [], laidByText := true, laidKinds := [.data], laidTests := true, laidLooks := .later }
def ChunkBackUptoCardSaid : Prop := Claim7.holds Tryd.pinned (.plain (OpenSpec.upto chunkBackSpec)) chunkBackUptoCard

/-- THE SECOND FORM's CARD OF 'barographlaw09.ChunkEven'. -/
def chunkEvenUptoCard : Claim7 := { stood := { row := chunkEvenUptoRow, standIns := [], harness := (true, "9153a3e9d1b2a59748a41365bcba6962e445f6bba6bb176f5543e66bbb064401"), looks := false }, kinds := [], alts := [], laidByText := true, laidKinds := [.data], laidTests := true, laidLooks := .later }
def ChunkEvenUptoCardSaid : Prop := Claim7.holds Tryd.pinned (.plain (OpenSpec.upto chunkEvenSpec)) chunkEvenUptoCard

/-- THE SECOND FORM's CARD OF 'barographlaw09.ChunkSplits'. -/
def chunkSplitsUptoCard : Claim7 := { stood := { row := chunkSplitsUptoRow, standIns := [], harness := (true, "9153a3e9d1b2a59748a41365bcba6962e445f6bba6bb176f5543e66bbb064401"), looks := false }, kinds := [], alts := [], laidByText := true, laidKinds := [.data], laidTests := true, laidLooks := .later }
def ChunkSplitsUptoCardSaid : Prop := Claim7.holds Tryd.pinned (.plain (OpenSpec.upto chunkSplitsSpec)) chunkSplitsUptoCard
end Rows
end Go.Proofs.YtdegmeclcbndgaaDoor
