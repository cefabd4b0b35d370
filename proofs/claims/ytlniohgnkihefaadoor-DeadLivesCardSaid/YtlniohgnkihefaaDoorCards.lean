/-
  DERIVED. GIVEN WITH THE SEED: THE CARDS: each row of YtlniohgnkihefaaDoorRows.lean that lists a variable, with what it lists TIED to the program's text (the seventh form; the later family's looks); each row that meets fmt, with fmt's text TOLD by the authors' own Lean function (tested against real Go, not proved from fmt's source: count such statements apart). THE CARD IS WHAT COUNTS. Prove the row's statement (the work); the ties are given (YtlniohgnkihefaaDoorTie.lean); close each card by the builder's one call (the guide's Derived/Test/ToyasCard.lean, 'card_holds'). Laid BY PROGRAM, IN A SANDBOX (cutbox-door.mjs). By AI agents, Wed Nov 11 2026. No macro, syntax, notation, axiom, sorry.
-/
import Derived.Test.YtlniohgnkihefaaDoorRows
import GoSem.ClaimSeven
namespace Go.Proofs.YtlniohgnkihefaaDoor
namespace Rows

/-- THE TIED CARD OF 'brazierlaw14.DeadLives'. -/
def deadLivesCard : Claim7 := { stood := { row := deadLivesRow, standIns := [], harness := (true, "5546a9de2db553e61edc27fb9c0174767af9d425e1dafc24c3abac7717a44bfc"), looks := false }, kinds := [], alts := [], laidByText := true, laidKinds := [.data], laidTests := true, laidLooks := .later }
def DeadLivesCardSaid : Prop := Claim7.holds Tryd.pinned (.plain (OpenSpec.ofChange deadLivesSpec)) deadLivesCard

/-- THE TIED CARD OF 'brazierlaw14.DeadIdle'. -/
def deadIdleCard : Claim7 := { stood := { row := deadIdleRow, standIns := [], harness := (true, "5546a9de2db553e61edc27fb9c0174767af9d425e1dafc24c3abac7717a44bfc"), looks := false }, kinds := [], alts := [], laidByText := true, laidKinds := [.data], laidTests := true, laidLooks := .later }
def DeadIdleCardSaid : Prop := Claim7.holds Tryd.pinned (.plain (OpenSpec.ofChange deadIdleSpec)) deadIdleCard

/-- THE SECOND FORM's CARD OF 'brazierlaw14.DeadLives'. -/
def deadLivesUptoCard : Claim7 := { stood := { row := deadLivesUptoRow, standIns := [], harness := (true, "5546a9de2db553e61edc27fb9c0174767af9d425e1dafc24c3abac7717a44bfc"), looks := false }, kinds := [], alts := [], laidByText := true, laidKinds := [.data], laidTests := true, laidLooks := .later }
def DeadLivesUptoCardSaid : Prop := Claim7.holds Tryd.pinned (.plain (OpenSpec.upto deadLivesSpec)) deadLivesUptoCard

/-- THE SECOND FORM's CARD OF 'brazierlaw14.DeadIdle'. -/
def deadIdleUptoCard : Claim7 := { stood := { row := deadIdleUptoRow, standIns := [], harness := (true, "5546a9de2db553e61edc27fb9c0174767af9d425e1dafc24c3abac7717a44bfc"), looks := false }, kinds := [], alts := [], laidByText := true, laidKinds := [.data], laidTests := true, laidLooks := .later }
def DeadIdleUptoCardSaid : Prop := Claim7.holds Tryd.pinned (.plain (OpenSpec.upto deadIdleSpec)) deadIdleUptoCard
end Rows
end Go.Proofs.YtlniohgnkihefaaDoor
