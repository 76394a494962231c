/-
  DERIVED. GIVEN WITH THE SEED: THE CARDS: each row of YtlddedddcdhjnaaDoorRows.lean that lists a variable, with what it lists TIED to the program's text (the seventh form; the later family's looks); each row that meets fmt, with fmt's text TOLD by the authors' own Lean function (tested against real Go, not proved from fmt's source: count such statements apart). THE CARD IS WHAT COUNTS. Prove the row's statement (the work); the ties are given (YtlddedddcdhjnaaDoorTie.lean); close each card by the builder's one call (the guide's Derived/Test/ToyasCard.lean, 'card_holds'). Laid BY PROGRAM, IN A SANDBOX (cutbox-door.mjs). By AI agents, Wed Nov 11 2026. No macro, syntax, notation, axiom, sorry.
-/
import Derived.Test.YtlddedddcdhjnaaDoorRows
import GoSem.ClaimSeven
namespace Go.Proofs.YtlddedddcdhjnaaDoor
namespace Rows

/-- THE TIED CARD OF 'barographlaw10.LabelReads'. -/
def labelReadsCard : Claim7 := { stood := { row := labelReadsRow, standIns := [], harness := (true, "bfa73f7e3a3aab4b482409f49447b2ea5c256e9ef5aefc49beb016bd867003e2"), looks := false }, kinds := [], alts := [], laidByText := true, laidKinds := [.data, .pinned], laidTests := true, laidLooks := .later }
def LabelReadsCardSaid : Prop := Claim7.holds Tryd.pinned (.plain (OpenSpec.ofChange labelReadsSpec)) labelReadsCard

/-- THE TIED CARD OF 'barographlaw10.LabelChecks'. -/
def labelChecksCard : Claim7 := { stood := { row := labelChecksRow, standIns := [], harness := (true, "bfa73f7e3a3aab4b482409f49447b2ea5c256e9ef5aefc49beb016bd867003e2"), looks := false }, kinds := [], alts := [], laidByText := true, laidKinds := [.data, .pinned], laidTests := true, laidLooks := .later }
def LabelChecksCardSaid : Prop := Claim7.holds Tryd.pinned (.plain (OpenSpec.ofChange labelChecksSpec)) labelChecksCard

/-- THE TIED CARD OF 'barographlaw10.LabelOrder'. -/
def labelOrderCard : Claim7 := { stood := { row := labelOrderRow, standIns := [], harness := (true, "bfa73f7e3a3aab4b482409f49447b2ea5c256e9ef5aefc49beb016bd867003e2"), looks := false }, kinds := [], alts := [], laidByText := true, laidKinds := [.data, .pinned], laidTests := true, laidLooks := .later }
def LabelOrderCardSaid : Prop := Claim7.holds Tryd.pinned (.plain (OpenSpec.ofChange labelOrderSpec)) labelOrderCard

/-- THE TIED CARD OF 'barographlaw10.LabelNames'. -/
def labelNamesCard : Claim7 := { stood := { row := labelNamesRow, standIns := [], harness := (true, "bfa73f7e3a3aab4b482409f49447b2ea5c256e9ef5aefc49beb016bd867003e2"), looks := false }, kinds := [], alts := [], laidByText := true, laidKinds := [.data, .pinned], laidTests := true, laidLooks := .later }
def LabelNamesCardSaid : Prop := Claim7.holds Tryd.pinned (.plain (OpenSpec.ofChange labelNamesSpec)) labelNamesCard

/-- THE TIED CARD OF 'barographlaw10.LabelGets'. -/
def labelGetsCard : Claim7 := { stood := { row := labelGetsRow, standIns := [], harness := (true, "bfa73f7e3a3aab4b482409f49447b2ea5c256e9ef5aefc49beb016bd867003e2"), looks := false }, kinds := [], alts := [], laidByText := true, laidKinds := [.data, .pinned], laidTests := true, laidLooks := .later }
def LabelGetsCardSaid : Prop := Claim7.holds Tryd.pinned (.plain (OpenSpec.ofChange labelGetsSpec)) labelGetsCard

/-- THE TIED CARD OF 'barographlaw11.MatchReads'. -/
def matchReadsCard : Claim7 := { stood := { row := matchReadsRow, standIns := [], harness := (true, "bfa73f7e3a3aab4b482409f49447b2ea5c256e9ef5aefc49beb016bd867003e2"), looks := false }, kinds := [], alts := [], laidByText := true, laidKinds := [.data, .pinned], laidTests := true, laidLooks := .later }
def MatchReadsCardSaid : Prop := Claim7.holds Tryd.pinned (.plain (OpenSpec.ofChange matchReadsSpec)) matchReadsCard

/-- THE TIED CARD OF 'barographlaw11.MatchTells'. -/
def matchTellsCard : Claim7 := { stood := { row := matchTellsRow, standIns := [], harness := (true, "bfa73f7e3a3aab4b482409f49447b2ea5c256e9ef5aefc49beb016bd867003e2"), looks := false }, kinds := [], alts := [], laidByText := true, laidKinds := [.data, .pinned], laidTests := true, laidLooks := .later }
def MatchTellsCardSaid : Prop := Claim7.holds Tryd.pinned (.plain (OpenSpec.ofChange matchTellsSpec)) matchTellsCard

/-- THE TIED CARD OF 'barographlaw10.LabelBack'. -/
def labelBackCard : Claim7 := { stood := { row := labelBackRow, standIns := [], harness := (true, "bfa73f7e3a3aab4b482409f49447b2ea5c256e9ef5aefc49beb016bd867003e2"), looks := false }, kinds := [], alts := [], laidByText := true, laidKinds := [.data, .pinned], laidTests := true, laidLooks := .later }
def LabelBackCardSaid : Prop := Claim7.holds Tryd.pinned (.plain (OpenSpec.ofChange labelBackSpec)) labelBackCard

/-- THE TIED CARD OF 'barographlaw11.MatchBack'. -/
def matchBackCard : Claim7 := { stood := { row := matchBackRow, standIns := [], harness := (true, "bfa73f7e3a3aab4b482409f49447b2ea5c256e9ef5aefc49beb016bd867003e2"), looks := false }, kinds := [], alts := [], laidByText := true, laidKinds := [.data, .pinned], laidTests := true, laidLooks := .later }
def MatchBackCardSaid : Prop := Claim7.holds Tryd.pinned (.plain (OpenSpec.ofChange matchBackSpec)) matchBackCard

/-- THE TIED CARD OF 'barographlaw11.MatchMore'. -/
def matchMoreCard : Claim7 := { stood := { row := matchMoreRow, standIns := [], harness := (true, "bfa73f7e3a3aab4b482409f49447b2ea5c256e9ef5aefc49beb016bd867003e2"), looks := false }, kinds := [], alts := [], laidByText := true, laidKinds := [.data, .pinned], laidTests := true, laidLooks := .later }
def MatchMoreCardSaid : Prop := Claim7.holds Tryd.pinned (.plain (OpenSpec.ofChange matchMoreSpec)) matchMoreCard

/-- THE TIED CARD OF 'barographlaw11.MatchKinds'. -/
def matchKindsCard : Claim7 := { stood := { row := matchKindsRow, standIns := [], harness := (true, "bfa73f7e3a3aab4b482409f49447b2ea5c256e9ef5aefc49beb016bd867003e2"), looks := false }, kinds := [], alts := [], laidByText := true, laidKinds := [.data, .pinned], laidTests := true, laidLooks := .later }
def MatchKindsCardSaid : Prop := Claim7.holds Tryd.pinned (.plain (OpenSpec.ofChange matchKindsSpec)) matchKindsCard

/-- THE SECOND FORM's CARD OF 'barographlaw10.LabelReads'. -/
def labelReadsUptoCard : Claim7 := { stood := { row := labelReadsUptoRow, standIns := [], harness := (true, "bfa73f7e3a3aab4b482409f49447b2ea5c256e9ef5aefc49beb016bd867003e2"), looks := false }, kinds := [], alts := [], laidByText := true, laidKinds := [.data, .pinned], laidTests := true, laidLooks := .later }
def LabelReadsUptoCardSaid : Prop := Claim7.holds Tryd.pinned (.plain (OpenSpec.upto labelReadsSpec)) labelReadsUptoCard

/-- THE SECOND FORM's CARD OF 'barographlaw10.LabelChecks'. -/
def labelChecksUptoCard : Claim7 := { stood := { row := labelChecksUptoRow, standIns := [], harness := (true, "bfa73f7e3a3aab4b482409f49447b2ea5c256e9ef5aefc49beb016bd867003e2"), looks := false }, kinds := [], alts := [], laidByText := true, laidKinds := [.data, .pinned], laidTests := true, laidLooks := .later }
def LabelChecksUptoCardSaid : Prop := Claim7.holds Tryd.pinned (.plain (OpenSpec.upto labelChecksSpec)) labelChecksUptoCard

/-- THE SECOND FORM's CARD OF 'barographlaw10.LabelOrder'. -/
def labelOrderUptoCard : Claim7 := { stood := { row := labelOrderUptoRow, standIns := [], harness := (true, "bfa73f7e3a3aab4b482409f49447b2ea5c256e9ef5aefc49beb016bd867003e2"), looks := false }, kinds := [], alts := [], laidByText := true, laidKinds := [.data, .pinned], laidTests := true, laidLooks := .later }
def LabelOrderUptoCardSaid : Prop := Claim7.holds Tryd.pinned (.plain (OpenSpec.upto labelOrderSpec)) labelOrderUptoCard

/-- THE SECOND FORM's CARD OF 'barographlaw10.LabelNames'. -/
def labelNamesUptoCard : Claim7 := { stood := { row := labelNamesUptoRow, standIns := [], harness := (true, "bfa73f7e3a3aab4b482409f49447b2ea5c256e9ef5aefc49beb016bd867003e2"), looks := false }, kinds := [], alts := [], laidByText := true, laidKinds := [.data, .pinned], laidTests := true, laidLooks := .later }
def LabelNamesUptoCardSaid : Prop := Claim7.holds Tryd.pinned (.plain (OpenSpec.upto labelNamesSpec)) labelNamesUptoCard

/-- THE SECOND FORM's CARD OF 'barographlaw10.LabelGets'. -/
def labelGetsUptoCard : Claim7 := { stood := { row := labelGetsUptoRow, standIns := [], harness := (true, "bfa73f7e3a3aab4b482409f49447b2ea5c256e9ef5aefc49beb016bd867003e2"), looks := false }, kinds := [], alts := [], laidByText := true, laidKinds := [.data, .pinned], laidTests := true, laidLooks := .later }
def LabelGetsUptoCardSaid : Prop := Claim7.holds Tryd.pinned (.plain (OpenSpec.upto labelGetsSpec)) labelGetsUptoCard

/-- THE SECOND FORM's CARD OF 'barographlaw11.MatchReads'. -/
def matchReadsUptoCard : Claim7 := { stood := { row := matchReadsUptoRow, standIns := [], harness := (true, "bfa73f7e3a3aab4b482409f49447b2ea5c256e9ef5aefc49beb016bd867003e2"), looks := false }, kinds := [], alts := [], laidByText := true, laidKinds := [.data, .pinned], laidTests := true, laidLooks := .later }
def MatchReadsUptoCardSaid : Prop := Claim7.holds Tryd.pinned (.plain (OpenSpec.upto matchReadsSpec)) matchReadsUptoCard

/-- THE SECOND FORM's CARD OF 'barographlaw11.MatchTells'. -/
def matchTellsUptoCard : Claim7 := { stood := { row := matchTellsUptoRow, standIns := [], harness := (true, "bfa73f7e3a3aab4b482409f49447b2ea5c256e9ef5aefc49beb016bd867003e2"), looks := false }, kinds := [], alts := [], laidByText := true, laidKinds := [.data, .pinned], laidTests := true, laidLooks := .later }
def MatchTellsUptoCardSaid : Prop := Claim7.holds Tryd.pinned (.plain (OpenSpec.upto matchTellsSpec)) matchTellsUptoCard

/-- THE SECOND FORM's CARD OF 'barographlaw10.LabelBack'. -/
def labelBackUptoCard : Claim7 := { stood := { row := labelBackUptoRow, standIns := [], harness := (true, "bfa73f7e3a3aab4b482409f49447b2ea5c256e9ef5aefc49beb016bd867003e2"), looks := false }, kinds := [], alts := [], laidByText := true, laidKinds := [.data, .pinned], laidTests := true, laidLooks := .later }
def LabelBackUptoCardSaid : Prop := Claim7.holds Tryd.pinned (.plain (OpenSpec.upto labelBackSpec)) labelBackUptoCard

/-- THE SECOND FORM's CARD OF 'barographlaw11.MatchBack'. -/
def matchBackUptoCard : Claim7 := { stood := { row := matchBackUptoRow, standIns := [], harness := (true, "bfa73f7e3a3aab4b482409f49447b2ea5c256e9ef5aefc49beb016bd867003e2"), looks := false }, kinds := [], alts := [], laidByText := true, laidKinds := [.data, .pinned], laidTests := true, laidLooks := .later }
def MatchBackUptoCardSaid : Prop := Claim7.holds Tryd.pinned (.plain (OpenSpec.upto matchBackSpec)) matchBackUptoCard

/-- THE SECOND FORM's CARD OF 'barographlaw11.MatchMore'. -/
def matchMoreUptoCard : Claim7 := { stood := { row := matchMoreUptoRow, standIns := [], harness := (true, "bfa73f7e3a3aab4b482409f49447b2ea5c256e9ef5aefc49beb016bd867003e2"), looks := false }, kinds := [], alts := [], laidByText := true, laidKinds := [.data, .pinned], laidTests := true, laidLooks := .later }
def MatchMoreUptoCardSaid : Prop := Claim7.holds Tryd.pinned (.plain (OpenSpec.upto matchMoreSpec)) matchMoreUptoCard

/-- THE SECOND FORM's CARD OF 'barographlaw11.MatchKinds'. -/
def matchKindsUptoCard : Claim7 := { stood := { row := matchKindsUptoRow, standIns := [], harness := (true, "bfa73f7e3a3aab4b482409f49447b2ea5c256e9ef5aefc49beb016bd867003e2"), looks := false }, kinds := [], alts := [], laidByText := true, laidKinds := [.data, .pinned], laidTests := true, laidLooks := .later }
def MatchKindsUptoCardSaid : Prop := Claim7.holds Tryd.pinned (.plain (OpenSpec.upto matchKindsSpec)) matchKindsUptoCard
end Rows
end Go.Proofs.YtlddedddcdhjnaaDoor
