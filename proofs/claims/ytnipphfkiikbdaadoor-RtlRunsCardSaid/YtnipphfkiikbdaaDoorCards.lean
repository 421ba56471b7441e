/-
  DERIVED. GIVEN WITH THE SEED: THE CARDS: each row of YtnipphfkiikbdaaDoorRows.lean that lists a variable, with what it lists TIED to the program's text (the seventh form; the later family's looks); each row that meets fmt, with fmt's text TOLD by the authors' own Lean function (tested against real Go, not proved from fmt's source: count such statements apart). THE CARD IS WHAT COUNTS. Prove the row's statement (the work); the ties are given (YtnipphfkiikbdaaDoorTie.lean); close each card by the builder's one call (the guide's Derived/Test/ToyasCard.lean, 'card_holds'). Laid BY PROGRAM, IN A SANDBOX (cutbox-door.mjs). By AI agents, Wed Nov 11 2026. No macro, syntax, notation, axiom, sorry.
-/
import Derived.Test.YtnipphfkiikbdaaDoorRows
import GoSem.ClaimSeven
namespace Go.Proofs.YtnipphfkiikbdaaDoor
namespace Rows

/-- THE TIED CARD OF 'netwrightlaw21.RtlValid'. -/
def rtlValidCard : Claim7 := { stood := { row := rtlValidRow, standIns := [], harness := (true, "08b134bd9a1cdd4b6facb518c0c358438de69979a5bb4ba20321cc38d44b6500"), looks := false }, kinds := [], alts := [], laidByText := true, laidKinds := [.data, .data, .data], laidTests := true, laidLooks := .later }
def RtlValidCardSaid : Prop := Claim7.holds Tryd.pinned (.plain (OpenSpec.ofChange rtlValidSpec)) rtlValidCard

/-- THE TIED CARD OF 'netwrightlaw21.RtlEvals'. -/
def rtlEvalsCard : Claim7 := { stood := { row := rtlEvalsRow, standIns := [], harness := (true, "08b134bd9a1cdd4b6facb518c0c358438de69979a5bb4ba20321cc38d44b6500"), looks := false }, kinds := [], alts := [], laidByText := true, laidKinds := [.data, .data, .data], laidTests := true, laidLooks := .later }
def RtlEvalsCardSaid : Prop := Claim7.holds Tryd.pinned (.plain (OpenSpec.ofChange rtlEvalsSpec)) rtlEvalsCard

/-- THE TIED CARD OF 'netwrightlaw21.RtlRuns'. -/
def rtlRunsCard : Claim7 := { stood := { row := rtlRunsRow, standIns := [], harness := (true, "08b134bd9a1cdd4b6facb518c0c358438de69979a5bb4ba20321cc38d44b6500"), looks := false }, kinds := [], alts := [], laidByText := true, laidKinds := [.data, .data, .data], laidTests := true, laidLooks := .later }
def RtlRunsCardSaid : Prop := Claim7.holds Tryd.pinned (.plain (OpenSpec.ofChange rtlRunsSpec)) rtlRunsCard

/-- THE TIED CARD OF 'netwrightlaw21.RtlFolds'. -/
def rtlFoldsCard : Claim7 := { stood := { row := rtlFoldsRow, standIns := [], harness := (true, "08b134bd9a1cdd4b6facb518c0c358438de69979a5bb4ba20321cc38d44b6500"), looks := false }, kinds := [], alts := [], laidByText := true, laidKinds := [.data, .data, .data], laidTests := true, laidLooks := .later }
def RtlFoldsCardSaid : Prop := Claim7.holds Tryd.pinned (.plain (OpenSpec.ofChange rtlFoldsSpec)) rtlFoldsCard

/-- THE TIED CARD OF 'netwrightlaw21.RtlOwn'. -/
def rtlOwnCard : Claim7 := { stood := { row := rtlOwnRow, standIns := [], harness := (true, "08b134bd9a1cdd4b6facb518c0c358438de69979a5bb4ba20321cc38d44b6500"), looks := false }, kinds := [], alts := [], laidByText := true, laidKinds := [.data, .data, .data], laidTests := true, laidLooks := .later }
def RtlOwnCardSaid : Prop := Claim7.holds Tryd.pinned (.plain (OpenSpec.ofChange rtlOwnSpec)) rtlOwnCard

/-- THE SECOND FORM's CARD OF 'netwrightlaw21.RtlValid'. -/
def rtlValidUptoCard : Claim7 := { stood := { row := rtlValidUptoRow, standIns := [], harness := (true, "08b134bd9a1cdd4b6facb518c0c358438de69979a5bb4ba20321cc38d44b6500"), looks := false }, kinds := [], alts := [], laidByText := true, laidKinds := [.data, .data, .data], laidTests := true, laidLooks := .later }
def RtlValidUptoCardSaid : Prop := Claim7.holds Tryd.pinned (.plain (OpenSpec.upto rtlValidSpec)) rtlValidUptoCard

/-- THE SECOND FORM's CARD OF 'netwrightlaw21.RtlEvals'. -/
def rtlEvalsUptoCard : Claim7 := { stood := { row := rtlEvalsUptoRow, standIns := [], harness := (true, "08b134bd9a1cdd4b6facb518c0c358438de69979a5bb4ba20321cc38d44b6500"), looks := false }, kinds := [], alts := [], laidByText := true, laidKinds := [.data, .data, .data], laidTests := true, laidLooks := .later }
def RtlEvalsUptoCardSaid : Prop := Claim7.holds Tryd.pinned (.plain (OpenSpec.upto rtlEvalsSpec)) rtlEvalsUptoCard

/-- THE SECOND FORM's CARD OF 'netwrightlaw21.RtlRuns'. -/
def rtlRunsUptoCard : Claim7 := { stood := { row := rtlRunsUptoRow, standIns := [], harness := (true, "08b134bd9a1cdd4b6facb518c0c358438de69979a5bb4ba20321cc38d44b6500"), looks := false }, kinds := [], alts := [], laidByText := true, laidKinds := [.data, .data, .data], laidTests := true, laidLooks := .later }
def RtlRunsUptoCardSaid : Prop := Claim7.holds Tryd.pinned (.plain (OpenSpec.upto rtlRunsSpec)) rtlRunsUptoCard

/-- THE SECOND FORM's CARD OF 'netwrightlaw21.RtlFolds'. -/
def rtlFoldsUptoCard : Claim7 := { stood := { row := rtlFoldsUptoRow, standIns := [], harness := (true, "08b134bd9a1cdd4b6facb518c0c358438de69979a5bb4ba20321cc38d44b6500"), looks := false }, kinds := [], alts := [], laidByText := true, laidKinds := [.data, .data, .data], laidTests := true, laidLooks := .later }
def RtlFoldsUptoCardSaid : Prop := Claim7.holds Tryd.pinned (.plain (OpenSpec.upto rtlFoldsSpec)) rtlFoldsUptoCard

/-- THE SECOND FORM's CARD OF 'netwrightlaw21.RtlOwn'. -/
def rtlOwnUptoCard : Claim7 := { stood := { row := rtlOwnUptoRow, standIns := [], harness := (true, "08b134bd9a1cdd4b6facb518c0c358438de69979a5bb4ba20321cc38d44b6500"), looks := false }, kinds := [], alts := [], laidByText := true, laidKinds := [.data, .data, .data], laidTests := true, laidLooks := .later }
def RtlOwnUptoCardSaid : Prop := Claim7.holds Tryd.pinned (.plain (OpenSpec.upto rtlOwnSpec)) rtlOwnUptoCard
end Rows
end Go.Proofs.YtnipphfkiikbdaaDoor
