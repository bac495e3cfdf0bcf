/-
  DERIVED. GIVEN WITH THE SEED: THE CARDS: each row of YthiahpkodnfdcaaDoorRows.lean that lists a variable, with what it lists TIED to the program's text (the seventh form; the later family's looks); each row that meets fmt, with fmt's text TOLD by the authors' own Lean function (tested against real Go, not proved from fmt's source: count such statements apart). THE CARD IS WHAT COUNTS. Prove the row's statement (the work); the ties are given (YthiahpkodnfdcaaDoorTie.lean); close each card by the builder's one call (the guide's Derived/Test/ToyasCard.lean, 'card_holds'). Laid BY PROGRAM, IN A SANDBOX (cutbox-door.mjs). By AI agents, Wed Nov 11 2026. No macro, syntax, notation, axiom, sorry.
-/
import Derived.Test.YthiahpkodnfdcaaDoorRows
import GoSem.ClaimSeven
namespace Go.Proofs.YthiahpkodnfdcaaDoor
namespace Rows

/-- THE TIED CARD OF 'astragallaw06.Gf2Tells'. -/
def gf2TellsCard : Claim7 := { stood := { row := gf2TellsRow, standIns := [], harness := (true, "4a37a9e5ef5092f43648647d30f7d51f003643cc1ecc4d70c2074dfd80f2318c"), looks := false }, kinds := [], alts := [], laidByText := true, laidKinds := [.data], laidTests := true, laidLooks := .later }
def Gf2TellsCardSaid : Prop := Claim7.holds Tryd.pinned (.plain (OpenSpec.ofChange gf2TellsSpec)) gf2TellsCard

/-- THE TIED CARD OF 'astragallaw06.Gf2Common'. -/
def gf2CommonCard : Claim7 := { stood := { row := gf2CommonRow, standIns := [], harness := (true, "4a37a9e5ef5092f43648647d30f7d51f003643cc1ecc4d70c2074dfd80f2318c"), looks := false }, kinds := [], alts := [], laidByText := true, laidKinds := [.data], laidTests := true, laidLooks := .later }
def Gf2CommonCardSaid : Prop := Claim7.holds Tryd.pinned (.plain (OpenSpec.ofChange gf2CommonSpec)) gf2CommonCard

/-- THE TIED CARD OF 'astragallaw06.Gf2Reckons'. -/
def gf2ReckonsCard : Claim7 := { stood := { row := gf2ReckonsRow, standIns := [], harness := (true, "4a37a9e5ef5092f43648647d30f7d51f003643cc1ecc4d70c2074dfd80f2318c"), looks := false }, kinds := [], alts := [], laidByText := true, laidKinds := [.data], laidTests := true, laidLooks := .later }
def Gf2ReckonsCardSaid : Prop := Claim7.holds Tryd.pinned (.plain (OpenSpec.ofChange gf2ReckonsSpec)) gf2ReckonsCard

/-- THE TIED CARD OF 'astragallaw06.Gf2Divides'. -/
def gf2DividesCard : Claim7 := { stood := { row := gf2DividesRow, standIns := [], harness := (true, "4a37a9e5ef5092f43648647d30f7d51f003643cc1ecc4d70c2074dfd80f2318c"), looks := false }, kinds := [], alts := [], laidByText := true, laidKinds := [.data], laidTests := true, laidLooks := .later }
def Gf2DividesCardSaid : Prop := Claim7.holds Tryd.pinned (.plain (OpenSpec.ofChange gf2DividesSpec)) gf2DividesCard

/-- THE TIED CARD OF 'astragallaw06.Gf2Powers'. -/
def gf2PowersCard : Claim7 := { stood := { row := gf2PowersRow, standIns := [], harness := (true, "4a37a9e5ef5092f43648647d30f7d51f003643cc1ecc4d70c2074dfd80f2318c"), looks := false }, kinds := [], alts := [], laidByText := true, laidKinds := [.data], laidTests := true, laidLooks := .later }
def Gf2PowersCardSaid : Prop := Claim7.holds Tryd.pinned (.plain (OpenSpec.ofChange gf2PowersSpec)) gf2PowersCard

/-- THE SECOND FORM's CARD OF 'astragallaw06.Gf2Tells'. -/
def gf2TellsUptoCard : Claim7 := { stood := { row := gf2TellsUptoRow, standIns := [], harness := (true, "4a37a9e5ef5092f43648647d30f7d51f003643cc1ecc4d70c2074dfd80f2318c"), looks := false }, kinds := [], alts := [], laidByText := true, laidKinds := [.data], laidTests := true, laidLooks := .later }
def Gf2TellsUptoCardSaid : Prop := Claim7.holds Tryd.pinned (.plain (OpenSpec.upto gf2TellsSpec)) gf2TellsUptoCard

/-- THE SECOND FORM's CARD OF 'astragallaw06.Gf2Common'. -/
def gf2CommonUptoCard : Claim7 := { stood := { row := gf2CommonUptoRow, standIns := [], harness := (true, "4a37a9e5ef5092f43648647d30f7d51f003643cc1ecc4d70c2074dfd80f2318c"), looks := false }, kinds := [], alts := [], laidByText := true, laidKinds := [.data], laidTests := true, laidLooks := .later }
def Gf2CommonUptoCardSaid : Prop := Claim7.holds Tryd.pinned (.plain (OpenSpec.upto gf2CommonSpec)) gf2CommonUptoCard

/-- THE SECOND FORM's CARD OF 'astragallaw06.Gf2Reckons'. -/
def gf2ReckonsUptoCard : Claim7 := { stood := { row := gf2ReckonsUptoRow, standIns := [], harness := (true, "4a37a9e5ef5092f43648647d30f7d51f003643cc1ecc4d70c2074dfd80f2318c"), looks := false }, kinds := [], alts := [], laidByText := true, laidKinds := [.data], laidTests := true, laidLooks := .later }
def Gf2ReckonsUptoCardSaid : Prop := Claim7.holds Tryd.pinned (.plain (OpenSpec.upto gf2ReckonsSpec)) gf2ReckonsUptoCard

/-- THE SECOND FORM's CARD OF 'astragallaw06.Gf2Divides'. -/
def gf2DividesUptoCard : Claim7 := { stood := { row := gf2DividesUptoRow, standIns := [], harness := (true, "4a37a9e5ef5092f43648647d30f7d51f003643cc1ecc4d70c2074dfd80f2318c"), looks := false }, kinds := [], alts := [], laidByText := true, laidKinds := [.data], laidTests := true, laidLooks := .later }
def Gf2DividesUptoCardSaid : Prop := Claim7.holds Tryd.pinned (.plain (OpenSpec.upto gf2DividesSpec)) gf2DividesUptoCard

/-- THE SECOND FORM's CARD OF 'astragallaw06.Gf2Powers'. -/
def gf2PowersUptoCard : Claim7 := { stood := { row := gf2PowersUptoRow, standIns := [], harness := (true, "4a37a9e5ef5092f43648647d30f7d51f003643cc1ecc4d70c2074dfd80f2318c"), looks := false }, kinds := [], alts := [], laidByText := true, laidKinds := [.data], laidTests := true, laidLooks := .later }
def Gf2PowersUptoCardSaid : Prop := Claim7.holds Tryd.pinned (.plain (OpenSpec.upto gf2PowersSpec)) gf2PowersUptoCard
end Rows
end Go.Proofs.YthiahpkodnfdcaaDoor
