/-
  DERIVED. GIVEN WITH THE SEED: THE CARDS: each row of YtdnlgcomhgnegaaDoorRows.lean that lists a variable, with what it lists TIED to the program's text (the seventh form; the later family's looks); each row that meets fmt, with fmt's text TOLD by the authors' own Lean function (tested against real Go, not proved from fmt's source: count such statements apart). THE CARD IS WHAT COUNTS. Prove the row's statement (the work); the ties are given (YtdnlgcomhgnegaaDoorTie.lean); close each card by the builder's one call (the guide's Derived/Test/ToyasCard.lean, 'card_holds'). Laid BY PROGRAM, IN A SANDBOX (cutbox-door.mjs). By AI agents, Wed Nov 11 2026. No macro, syntax, notation, axiom, sorry.
-/
import Derived.Test.YtdnlgcomhgnegaaDoorRows
import GoSem.ClaimSeven
namespace Go.Proofs.YtdnlgcomhgnegaaDoor
namespace Rows

/-- THE TIED CARD OF 'brazierlaw03.SetsPlays'. -/
def setsPlaysCard : Claim7 := { stood := { row := setsPlaysRow, standIns := [], harness := (true, "f86ad48d53ceb5b03495876b643c5ad53dc2e4fae4a7cfa0a1f698b1e10c1bf0"), looks := false }, kinds := [], alts := [], laidByText := true, laidKinds := [.data], laidTests := true, laidLooks := .later }
def SetsPlaysCardSaid : Prop := Claim7.holds Tryd.pinned (.plain (OpenSpec.ofChange setsPlaysSpec)) setsPlaysCard

/-- THE TIED CARD OF 'brazierlaw03.SetsLoops'. -/
def setsLoopsCard : Claim7 := { stood := { row := setsLoopsRow, standIns := [], harness := (true, "f86ad48d53ceb5b03495876b643c5ad53dc2e4fae4a7cfa0a1f698b1e10c1bf0"), looks := false }, kinds := [], alts := [], laidByText := true, laidKinds := [.data], laidTests := true, laidLooks := .later }
def SetsLoopsCardSaid : Prop := Claim7.holds Tryd.pinned (.plain (OpenSpec.ofChange setsLoopsSpec)) setsLoopsCard

/-- THE TIED CARD OF 'brazierlaw03.SetsJoins'. -/
def setsJoinsCard : Claim7 := { stood := { row := setsJoinsRow, standIns := [], harness := (true, "f86ad48d53ceb5b03495876b643c5ad53dc2e4fae4a7cfa0a1f698b1e10c1bf0"), looks := false }, kinds := [], alts := [], laidByText := true, laidKinds := [.data], laidTests := true, laidLooks := .later }
def SetsJoinsCardSaid : Prop := Claim7.holds Tryd.pinned (.plain (OpenSpec.ofChange setsJoinsSpec)) setsJoinsCard

/-- THE TIED CARD OF 'brazierlaw03.SetsNobody'. -/
def setsNobodyCard : Claim7 := { stood := { row := setsNobodyRow, standIns := [], harness := (true, "f86ad48d53ceb5b03495876b643c5ad53dc2e4fae4a7cfa0a1f698b1e10c1bf0"), looks := false }, kinds := [], alts := [], laidByText := true, laidKinds := [.data], laidTests := true, laidLooks := .later }
def SetsNobodyCardSaid : Prop := Claim7.holds Tryd.pinned (.plain (OpenSpec.ofChange setsNobodySpec)) setsNobodyCard

/-- THE SECOND FORM's CARD OF 'brazierlaw03.SetsPlays'. -/
def setsPlaysUptoCard : Claim7 := { stood := { row := setsPlaysUptoRow, standIns := [], harness := (true, "f86ad48d53ceb5b03495876b643c5ad53dc2e4fae4a7cfa0a1f698b1e10c1bf0"), looks := false }, kinds := [], alts := [], laidByText := true, laidKinds := [.data], laidTests := true, laidLooks := .later }
def SetsPlaysUptoCardSaid : Prop := Claim7.holds Tryd.pinned (.plain (OpenSpec.upto setsPlaysSpec)) setsPlaysUptoCard

/-- THE SECOND FORM's CARD OF 'brazierlaw03.SetsLoops'. -/
def setsLoopsUptoCard : Claim7 := { stood := { row := setsLoopsUptoRow, standIns := [], harness := (true, "f86ad48d53ceb5b03495876b643c5ad53dc2e4fae4a7cfa0a1f698b1e10c1bf0"), looks := false }, kinds := [], alts := [], laidByText := true, laidKinds := [.data], laidTests := true, laidLooks := .later }
def SetsLoopsUptoCardSaid : Prop := Claim7.holds Tryd.pinned (.plain (OpenSpec.upto setsLoopsSpec)) setsLoopsUptoCard

/-- THE SECOND FORM's CARD OF 'brazierlaw03.SetsJoins'. -/
def setsJoinsUptoCard : Claim7 := { stood := { row := setsJoinsUptoRow, standIns := [], harness := (true, "f86ad48d53ceb5b03495876b643c5ad53dc2e4fae4a7cfa0a1f698b1e10c1bf0"), looks := false }, kinds := [], alts := [], laidByText := true, laidKinds := [.data], laidTests := true, laidLooks := .later }
def SetsJoinsUptoCardSaid : Prop := Claim7.holds Tryd.pinned (.plain (OpenSpec.upto setsJoinsSpec)) setsJoinsUptoCard

/-- THE SECOND FORM's CARD OF 'brazierlaw03.SetsNobody'. -/
def setsNobodyUptoCard : Claim7 := { stood := { row := setsNobodyUptoRow, standIns := [], harness := (true, "f86ad48d53ceb5b03495876b643c5ad53dc2e4fae4a7cfa0a1f698b1e10c1bf0"), looks := false }, kinds := [], alts := [], laidByText := true, laidKinds := [.data], laidTests := true, laidLooks := .later }
def SetsNobodyUptoCardSaid : Prop := Claim7.holds Tryd.pinned (.plain (OpenSpec.upto setsNobodySpec)) setsNobodyUptoCard
end Rows
end Go.Proofs.YtdnlgcomhgnegaaDoor
