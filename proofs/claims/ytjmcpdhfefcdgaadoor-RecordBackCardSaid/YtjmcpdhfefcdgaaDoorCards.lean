/-
  DERIVED. GIVEN WITH THE SEED: THE CARDS: each row of YtjmcpdhfefcdgaaDoorRows.lean that lists a variable, with what it lists TIED to the program's text (the seventh form; the later family's looks); each row that meets fmt, with fmt's text TOLD by the authors' own Lean function (tested against real Go, not proved from fmt's source: count such statements apart). THE CARD IS WHAT COUNTS. Prove the row's statement (the work); the ties are given (YtjmcpdhfefcdgaaDoorTie.lean); close each card by the builder's one call (the guide's Derived/Test/ToyasCard.lean, 'card_holds'). Laid BY PROGRAM, IN A SANDBOX (cutbox-door.mjs). By AI agents, Wed Nov 11 2026. No macro, syntax, notation, axiom, sorry.
-/
import Derived.Test.YtjmcpdhfefcdgaaDoorRows
import GoSem.ClaimSeven
namespace Go.Proofs.YtjmcpdhfefcdgaaDoor
namespace Rows

/-- THE TIED CARD OF 'barographlaw12.RecordChecks'. -/
def recordChecksCard : Claim7 := { stood := { row := recordChecksRow, standIns := [], harness := (true, "e9b10d8351b1024b24bf8392934cca5648b64e9c781c2a8244dccac70870ad57"), looks := true }, kinds := [], alts := [], laidByText := true, laidKinds := [.data, .pinned], laidTests := true, laidLooks := .later }
def RecordChecksCardSaid : Prop := Claim7.holds Tryd.pinned (.plain (OpenSpec.ofChange recordChecksSpec)) recordChecksCard

/-- THE TIED CARD OF 'barographlaw12.RecordReads'. -/
def recordReadsCard : Claim7 := { stood := { row := recordReadsRow, standIns := [], harness := (true, "e9b10d8351b1024b24bf8392934cca5648b64e9c781c2a8244dccac70870ad57"), looks := true }, kinds := [], alts := [], laidByText := true, laidKinds := [.data, .pinned], laidTests := true, laidLooks := .later }
def RecordReadsCardSaid : Prop := Claim7.holds Tryd.pinned (.plain (OpenSpec.ofChange recordReadsSpec)) recordReadsCard

/-- THE TIED CARD OF 'barographlaw12.RecordBack'. -/
def recordBackCard : Claim7 := { stood := { row := recordBackRow, standIns := [], harness := (true, "e9b10d8351b1024b24bf8392934cca5648b64e9c781c2a8244dccac70870ad57"), looks := true }, kinds := [], alts := [], laidByText := true, laidKinds := [.data, .pinned], laidTests := true, laidLooks := .later }
def RecordBackCardSaid : Prop := Claim7.holds Tryd.pinned (.plain (OpenSpec.ofChange recordBackSpec)) recordBackCard

/-- THE TIED CARD OF 'barographlaw12.RecordMany'. -/
def recordManyCard : Claim7 := { stood := { row := recordManyRow, standIns := [], harness := (true, "e9b10d8351b1024b24bf8392934cca5648b64e9c781c2a8244dccac70870ad57"), looks := true }, kinds := [], alts := [], laidByText := true, laidKinds := [.data, .pinned], laidTests := true, laidLooks := .later }
def RecordManyCardSaid : Prop := Claim7.holds Tryd.pinned (.plain (OpenSpec.ofChange recordManySpec)) recordManyCard

/-- THE TIED CARD OF 'barographlaw12.RecordSpans'. -/
def recordSpansCard : Claim7 := { stood := { row := recordSpansRow, standIns := [], harness := (true, "e9b10d8351b1024b24bf8392934cca5648b64e9c781c2a8244dccac70870ad57"), looks := true }, kinds := [], alts := [], laidByText := true, laidKinds := [.data, .pinned], laidTests := true, laidLooks := .later }
def RecordSpansCardSaid : Prop := Claim7.holds Tryd.pinned (.plain (OpenSpec.ofChange recordSpansSpec)) recordSpansCard

/-- THE SECOND FORM's CARD OF 'barographlaw12.RecordChecks'. -/
def recordChecksUptoCard : Claim7 := { stood := { row := recordChecksUptoRow, standIns := [], harness := (true, "e9b10d8351b1024b24bf8392934cca5648b64e9c781c2a8244dccac70870ad57"), looks := true }, kinds := [], alts := [], laidByText := true, laidKinds := [.data, .pinned], laidTests := true, laidLooks := .later }
def RecordChecksUptoCardSaid : Prop := Claim7.holds Tryd.pinned (.plain (OpenSpec.upto recordChecksSpec)) recordChecksUptoCard

/-- THE SECOND FORM's CARD OF 'barographlaw12.RecordReads'. -/
def recordReadsUptoCard : Claim7 := { stood := { row := recordReadsUptoRow, standIns := [], harness := (true, "e9b10d8351b1024b24bf8392934cca5648b64e9c781c2a8244dccac70870ad57"), looks := true }, kinds := [], alts := [], laidByText := true, laidKinds := [.data, .pinned], laidTests := true, laidLooks := .later }
def RecordReadsUptoCardSaid : Prop := Claim7.holds Tryd.pinned (.plain (OpenSpec.upto recordReadsSpec)) recordReadsUptoCard

/-- THE SECOND FORM's CARD OF 'barographlaw12.RecordBack'. -/
def recordBackUptoCard : Claim7 := { stood := { row := recordBackUptoRow, standIns := [], harness := (true, "e9b10d8351b1024b24bf8392934cca5648b64e9c781c2a8244dccac70870ad57"), looks := true }, kinds := [], alts := [], laidByText := true, laidKinds := [.data, .pinned], laidTests := true, laidLooks := .later }
def RecordBackUptoCardSaid : Prop := Claim7.holds Tryd.pinned (.plain (OpenSpec.upto recordBackSpec)) recordBackUptoCard

/-- THE SECOND FORM's CARD OF 'barographlaw12.RecordMany'. -/
def recordManyUptoCard : Claim7 := { stood := { row := recordManyUptoRow, standIns := [], harness := (true, "e9b10d8351b1024b24bf8392934cca5648b64e9c781c2a8244dccac70870ad57"), looks := true }, kinds := [], alts := [], laidByText := true, laidKinds := [.data, .pinned], laidTests := true, laidLooks := .later }
def RecordManyUptoCardSaid : Prop := Claim7.holds Tryd.pinned (.plain (OpenSpec.upto recordManySpec)) recordManyUptoCard

/-- THE SECOND FORM's CARD OF 'barographlaw12.RecordSpans'. -/
def recordSpansUptoCard : Claim7 := { stood := { row := recordSpansUptoRow, standIns := [], harness := (true, "e9b10d8351b1024b24bf8392934cca5648b64e9c781c2a8244dccac70870ad57"), looks := true }, kinds := [], alts := [], laidByText := true, laidKinds := [.data, .pinned], laidTests := true, laidLooks := .later }
def RecordSpansUptoCardSaid : Prop := Claim7.holds Tryd.pinned (.plain (OpenSpec.upto recordSpansSpec)) recordSpansUptoCard
end Rows
end Go.Proofs.YtjmcpdhfefcdgaaDoor
