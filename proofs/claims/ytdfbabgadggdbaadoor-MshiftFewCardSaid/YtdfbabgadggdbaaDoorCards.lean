/-
  DERIVED. GIVEN WITH THE SEED: THE CARDS: each row of YtdfbabgadggdbaaDoorRows.lean that lists a variable, with what it lists TIED to the program's text (the seventh form; the later family's looks); each row that meets fmt, with fmt's text TOLD by the authors' own Lean function (tested against real Go, not proved from fmt's source: count such statements apart). THE CARD IS WHAT COUNTS. Prove the row's statement (the work); the ties are given (YtdfbabgadggdbaaDoorTie.lean); close each card by the builder's one call (the guide's Derived/Test/ToyasCard.lean, 'card_holds'). Laid BY PROGRAM, IN A SANDBOX (cutbox-door.mjs). By AI agents, Wed Nov 11 2026. No macro, syntax, notation, axiom, sorry.
-/
import Derived.Test.YtdfbabgadggdbaaDoorRows
import GoSem.ClaimSeven
namespace Go.Proofs.YtdfbabgadggdbaaDoor
namespace Rows

/-- THE TIED CARD OF 'astragallaw20.MshiftRanks'. -/
def mshiftRanksCard : Claim7 := { stood := { row := mshiftRanksRow, standIns := [], harness := (true, "06ba0f98eba9a2166a01a9a0cd3a7d21f6110b2a7b9b5a2b3d48fea536de635e"), looks := false }, kinds := [], alts := [], laidByText := true, laidKinds := [.data], laidTests := true, laidLooks := .later }
def MshiftRanksCardSaid : Prop := Claim7.holds Tryd.pinned (.plain (OpenSpec.ofChange mshiftRanksSpec)) mshiftRanksCard

/-- THE TIED CARD OF 'astragallaw20.MshiftEvals'. -/
def mshiftEvalsCard : Claim7 := { stood := { row := mshiftEvalsRow, standIns := [], harness := (true, "06ba0f98eba9a2166a01a9a0cd3a7d21f6110b2a7b9b5a2b3d48fea536de635e"), looks := false }, kinds := [], alts := [], laidByText := true, laidKinds := [.data], laidTests := true, laidLooks := .later }
def MshiftEvalsCardSaid : Prop := Claim7.holds Tryd.pinned (.plain (OpenSpec.ofChange mshiftEvalsSpec)) mshiftEvalsCard

/-- THE TIED CARD OF 'astragallaw20.MshiftUnranks'. -/
def mshiftUnranksCard : Claim7 := { stood := { row := mshiftUnranksRow, standIns := [], harness := (true, "06ba0f98eba9a2166a01a9a0cd3a7d21f6110b2a7b9b5a2b3d48fea536de635e"), looks := false }, kinds := [], alts := [], laidByText := true, laidKinds := [.data], laidTests := true, laidLooks := .later }
def MshiftUnranksCardSaid : Prop := Claim7.holds Tryd.pinned (.plain (OpenSpec.ofChange mshiftUnranksSpec)) mshiftUnranksCard

/-- THE TIED CARD OF 'astragallaw20.MshiftFew'. -/
def mshiftFewCard : Claim7 := { stood := { row := mshiftFewRow, standIns := [], harness := (true, "06ba0f98eba9a2166a01a9a0cd3a7d21f6110b2a7b9b5a2b3d48fea536de635e"), looks := false }, kinds := [], alts := [], laidByText := true, laidKinds := [.data], laidTests := true, laidLooks := .later }
def MshiftFewCardSaid : Prop := Claim7.holds Tryd.pinned (.plain (OpenSpec.ofChange mshiftFewSpec)) mshiftFewCard

/-- THE SECOND FORM's CARD OF 'astragallaw20.MshiftRanks'. -/
def mshiftRanksUptoCard : Claim7 := { stood := { row := mshiftRanksUptoRow, standIns := [], harness := (true, "06ba0f98eba9a2166a01a9a0cd3a7d21f6110b2a7b9b5a2b3d48fea536de635e"), looks := false }, kinds := [], alts := [], laidByText := true, laidKinds := [.data], laidTests := true, laidLooks := .later }
def MshiftRanksUptoCardSaid : Prop := Claim7.holds Tryd.pinned (.plain (OpenSpec.upto mshiftRanksSpec)) mshiftRanksUptoCard

/-- THE SECOND FORM's CARD OF 'astragallaw20.MshiftEvals'. -/
def mshiftEvalsUptoCard : Claim7 := { stood := { row := mshiftEvalsUptoRow, standIns := [], harness := (true, "06ba0f98eba9a2166a01a9a0cd3a7d21f6110b2a7b9b5a2b3d48fea536de635e"), looks := false }, kinds := [], alts := [], laidByText := true, laidKinds := [.data], laidTests := true, laidLooks := .later }
def MshiftEvalsUptoCardSaid : Prop := Claim7.holds Tryd.pinned (.plain (OpenSpec.upto mshiftEvalsSpec)) mshiftEvalsUptoCard

/-- THE SECOND FORM's CARD OF 'astragallaw20.MshiftUnranks'. -/
def mshiftUnranksUptoCard : Claim7 := { stood := { row := mshiftUnranksUptoRow, standIns := [], harness := (true, "06ba0f98eba9a2166a01a9a0cd3a7d21f6110b2a7b9b5a2b3d48fea536de635e"), looks := false }, kinds := [], alts := [], laidByText := true, laidKinds := [.data], laidTests := true, laidLooks := .later }
def MshiftUnranksUptoCardSaid : Prop := Claim7.holds Tryd.pinned (.plain (OpenSpec.upto mshiftUnranksSpec)) mshiftUnranksUptoCard

/-- THE SECOND FORM's CARD OF 'astragallaw20.MshiftFew'. -/
def mshiftFewUptoCard : Claim7 := { stood := { row := mshiftFewUptoRow, standIns := [], harness := (true, "06ba0f98eba9a2166a01a9a0cd3a7d21f6110b2a7b9b5a2b3d48fea536de635e"), looks := false }, kinds := [], alts := [], laidByText := true, laidKinds := [.data], laidTests := true, laidLooks := .later }
def MshiftFewUptoCardSaid : Prop := Claim7.holds Tryd.pinned (.plain (OpenSpec.upto mshiftFewSpec)) mshiftFewUptoCard
end Rows
end Go.Proofs.YtdfbabgadggdbaaDoor
