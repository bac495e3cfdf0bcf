/-
  NARROWER THAN 'FOR EVERY INPUT', by the rows' own cells (each row's printed sentence says how): Gf2Tells: laid · Gf2Common: laid · Gf2Reckons: laid · Gf2Divides: laid · Gf2Powers: laid.
  DERIVED. THE GIVEN ROWS OF THIS SEAT. 5 by the template 'for every input the law returns true; each argument reads behind the call as it read before'; 0 by the template 'total and deterministic' (their statements: YthiahpkodnfdcaaDoorTotals.lean).
  GIVEN WITH THE SEED: the statements are not yours to turn. If you find one false, say at which input.
  Laid BY PROGRAM, IN A SANDBOX (cutbox-rows.mjs): the forced cells as the released guide's own fill.sh prints them over the translation 29e45937dbd46d94… (all of the seat's roots in one cut). By AI agents, Wed Nov 11 2026. No macro, syntax, notation, axiom, sorry.
-/
import Derived.Test.YthiahpkodnfdcaaDoorChecked
import GoSem.Claim
import GoSem.ClaimJoined
import GoSem.ClaimMapViews
import Derived.JoinedTies
import Derived.KernelRfl
namespace Go.Proofs.YthiahpkodnfdcaaDoor
/- THE CELL 'sum', in the pinned program and in every row, IS THE sha256 OF THE DUMP (.gsa) THAT YthiahpkodnfdcaaDoorProg.lean LOADS. Nothing in Lean hashes anything: it is a label: what it is worth is what the hold of that sum in a sandbox is worth. -/
noncomputable def Tryd.pinned : Pinned := { name := "ythiahpkodnfdcaadoor", sum := "29e45937dbd46d945ac995ec7e30ff20370c13f080ef124a0e29bb530aae3b00", checked := Tryd.checked }
namespace Rows
def none {H : Type} : Left H := { results := [], args := [] }

/- WHAT THE LISTED PACKAGE-LEVEL VARIABLES READ AS WHEN THE CALL BEGINS. Each datum BY PROGRAM (the guide's laid-datum.mjs) off the statement by which the dump's own 'gosem.cut.vars' lays the variable. In a bare row this is a premise. The card (YthiahpkodnfdcaaDoorCards.lean) ties it to the program's text. -/
def laid_math_bits_deBruijn64tab {H : Type} : DataW H := .agg [.lit (.int .u8 0), .lit (.int .u8 1), .lit (.int .u8 56), .lit (.int .u8 2), .lit (.int .u8 57), .lit (.int .u8 49), .lit (.int .u8 28), .lit (.int .u8 3), .lit (.int .u8 61), .lit (.int .u8 58), .lit (.int .u8 42), .lit (.int .u8 50), .lit (.int .u8 38), .lit (.int .u8 29), .lit (.int .u8 17), .lit (.int .u8 4), .lit (.int .u8 62), .lit (.int .u8 47), .lit (.int .u8 59), .lit (.int .u8 36), .lit (.int .u8 45), .lit (.int .u8 43), .lit (.int .u8 51), .lit (.int .u8 22), .lit (.int .u8 53), .lit (.int .u8 39), .lit (.int .u8 33), .lit (.int .u8 30), .lit (.int .u8 24), .lit (.int .u8 18), .lit (.int .u8 12), .lit (.int .u8 5), .lit (.int .u8 63), .lit (.int .u8 55), .lit (.int .u8 48), .lit (.int .u8 27), .lit (.int .u8 60), .lit (.int .u8 41), .lit (.int .u8 37), .lit (.int .u8 16), .lit (.int .u8 46), .lit (.int .u8 35), .lit (.int .u8 44), .lit (.int .u8 21), .lit (.int .u8 52), .lit (.int .u8 32), .lit (.int .u8 23), .lit (.int .u8 11), .lit (.int .u8 54), .lit (.int .u8 26), .lit (.int .u8 40), .lit (.int .u8 15), .lit (.int .u8 34), .lit (.int .u8 20), .lit (.int .u8 31), .lit (.int .u8 10), .lit (.int .u8 25), .lit (.int .u8 14), .lit (.int .u8 19), .lit (.int .u8 9), .lit (.int .u8 13), .lit (.int .u8 8), .lit (.int .u8 7), .lit (.int .u8 6)]

/-- 'astragallaw06.Gf2Tells': WHATEVER THE INPUT: true; the input reads as it did. -/
def gf2TellsSpec : ChangeSpec := { name := "gf2Tells", fn := fun _ => fun
  | [d1, d2] => { results := [.lit (.bool true)], args := [d1, d2] }
  | _ => none }
def gf2TellsRow : OpenClaim := { program := "ythiahpkodnfdcaadoor", sum := "29e45937dbd46d945ac995ec7e30ff20370c13f080ef124a0e29bb530aae3b00", func := "astragal/astragallaw06.Gf2Tells", spec := "gf2Tells", named := ["math/bits.deBruijn64tab"], apart := false, laid := [("math/bits.deBruijn64tab", laid_math_bits_deBruijn64tab)] }
def Gf2TellsSaid : Prop := gf2TellsRow.holds Tryd.pinned (OpenSpec.ofChange gf2TellsSpec)

/-- ITS FALSE NEIGHBOUR: 'it returns false'. Refute it at one input. -/
def gf2TellsWrong : ChangeSpec := { name := "gf2Tells", fn := fun _ => fun
  | [d1, d2] => { results := [.lit (.bool false)], args := [d1, d2] }
  | _ => none }
def Gf2TellsWrongFalsely : Prop := gf2TellsRow.holds Tryd.pinned (OpenSpec.ofChange gf2TellsWrong)

/-- 'astragallaw06.Gf2Common': WHATEVER THE INPUT: true; the input reads as it did. -/
def gf2CommonSpec : ChangeSpec := { name := "gf2Common", fn := fun _ => fun
  | [d1, d2, d3] => { results := [.lit (.bool true)], args := [d1, d2, d3] }
  | _ => none }
def gf2CommonRow : OpenClaim := { program := "ythiahpkodnfdcaadoor", sum := "29e45937dbd46d945ac995ec7e30ff20370c13f080ef124a0e29bb530aae3b00", func := "astragal/astragallaw06.Gf2Common", spec := "gf2Common", named := ["math/bits.deBruijn64tab"], apart := false, laid := [("math/bits.deBruijn64tab", laid_math_bits_deBruijn64tab)] }
def Gf2CommonSaid : Prop := gf2CommonRow.holds Tryd.pinned (OpenSpec.ofChange gf2CommonSpec)

/-- ITS FALSE NEIGHBOUR: 'it returns false'. Refute it at one input. -/
def gf2CommonWrong : ChangeSpec := { name := "gf2Common", fn := fun _ => fun
  | [d1, d2, d3] => { results := [.lit (.bool false)], args := [d1, d2, d3] }
  | _ => none }
def Gf2CommonWrongFalsely : Prop := gf2CommonRow.holds Tryd.pinned (OpenSpec.ofChange gf2CommonWrong)

/-- 'astragallaw06.Gf2Reckons': WHATEVER THE INPUT: true; the input reads as it did. -/
def gf2ReckonsSpec : ChangeSpec := { name := "gf2Reckons", fn := fun _ => fun
  | [d1, d2] => { results := [.lit (.bool true)], args := [d1, d2] }
  | _ => none }
def gf2ReckonsRow : OpenClaim := { program := "ythiahpkodnfdcaadoor", sum := "29e45937dbd46d945ac995ec7e30ff20370c13f080ef124a0e29bb530aae3b00", func := "astragal/astragallaw06.Gf2Reckons", spec := "gf2Reckons", named := ["math/bits.deBruijn64tab"], apart := false, laid := [("math/bits.deBruijn64tab", laid_math_bits_deBruijn64tab)] }
def Gf2ReckonsSaid : Prop := gf2ReckonsRow.holds Tryd.pinned (OpenSpec.ofChange gf2ReckonsSpec)

/-- ITS FALSE NEIGHBOUR: 'it returns false'. Refute it at one input. -/
def gf2ReckonsWrong : ChangeSpec := { name := "gf2Reckons", fn := fun _ => fun
  | [d1, d2] => { results := [.lit (.bool false)], args := [d1, d2] }
  | _ => none }
def Gf2ReckonsWrongFalsely : Prop := gf2ReckonsRow.holds Tryd.pinned (OpenSpec.ofChange gf2ReckonsWrong)

/-- 'astragallaw06.Gf2Divides': WHATEVER THE INPUT: true; the input reads as it did. -/
def gf2DividesSpec : ChangeSpec := { name := "gf2Divides", fn := fun _ => fun
  | [d1, d2] => { results := [.lit (.bool true)], args := [d1, d2] }
  | _ => none }
def gf2DividesRow : OpenClaim := { program := "ythiahpkodnfdcaadoor", sum := "29e45937dbd46d945ac995ec7e30ff20370c13f080ef124a0e29bb530aae3b00", func := "astragal/astragallaw06.Gf2Divides", spec := "gf2Divides", named := ["math/bits.deBruijn64tab"], apart := false, laid := [("math/bits.deBruijn64tab", laid_math_bits_deBruijn64tab)] }
def Gf2DividesSaid : Prop := gf2DividesRow.holds Tryd.pinned (OpenSpec.ofChange gf2DividesSpec)

/-- ITS FALSE NEIGHBOUR: 'it returns false'. Refute it at one input. -/
def gf2DividesWrong : ChangeSpec := { name := "gf2Divides", fn := fun _ => fun
  | [d1, d2] => { results := [.lit (.bool false)], args := [d1, d2] }
  | _ => none }
def Gf2DividesWrongFalsely : Prop := gf2DividesRow.holds Tryd.pinned (OpenSpec.ofChange gf2DividesWrong)

/-- 'astragallaw06.Gf2Powers': WHATEVER THE INPUT: true; the input reads as it did. -/
def gf2PowersSpec : ChangeSpec := { name := "gf2Powers", fn := fun _ => fun
  | [d1, d2, d3, d4] => { results := [.lit (.bool true)], args := [d1, d2, d3, d4] }
  | _ => none }
def gf2PowersRow : OpenClaim := { program := "ythiahpkodnfdcaadoor", sum := "29e45937dbd46d945ac995ec7e30ff20370c13f080ef124a0e29bb530aae3b00", func := "astragal/astragallaw06.Gf2Powers", spec := "gf2Powers", inPlace := ["math/bits.Add64"], named := ["math/bits.deBruijn64tab"], apart := false, laid := [("math/bits.deBruijn64tab", laid_math_bits_deBruijn64tab)] }
def Gf2PowersSaid : Prop := gf2PowersRow.holds Tryd.pinned (OpenSpec.ofChange gf2PowersSpec)

/-- ITS FALSE NEIGHBOUR: 'it returns false'. Refute it at one input. -/
def gf2PowersWrong : ChangeSpec := { name := "gf2Powers", fn := fun _ => fun
  | [d1, d2, d3, d4] => { results := [.lit (.bool false)], args := [d1, d2, d3, d4] }
  | _ => none }
def Gf2PowersWrongFalsely : Prop := gf2PowersRow.holds Tryd.pinned (OpenSpec.ofChange gf2PowersWrong)

/- THE SECOND FORM. 'bulk': how many values and letters a reading holds, each counted each time it is reached (what is shared counts as often as it is met; a slice's spare places count too). A statement '..UptoSaid' is the law's where the arguments, and the package variables that the reading takes, are together of bulk at most 1048576: NARROWER than '..Said'. Prove '..Said' where nothing that the law and all that it calls make is longer than what came in: it says more and counts as full. Else prove '..UptoSaid'. A law counts once. -/
mutual
def uptoBulk {H : Type} : DataW H → Nat
  | .lit (.string bytes) => bytes.length + 1
  | .lit _ => 1
  | .nil => 1
  | .ptr d => uptoBulk d + 1
  | .slice elems spare => uptoBulkAll elems + uptoBulkAll spare + 1
  | .agg parts => uptoBulkAll parts + 1
  | .iface _ d => uptoBulk d + 1
  | .map entries => uptoBulkEntries entries + 1
  | .held _ => 1
def uptoBulkAll {H : Type} : List (DataW H) → Nat
  | [] => 0
  | d :: r => uptoBulk d + uptoBulkAll r
def uptoBulkEntries {H : Type} : List (Lit × DataW H) → Nat
  | [] => 0
  | x :: r => uptoBulkEntry x + uptoBulkEntries r
def uptoBulkEntry {H : Type} : Lit × DataW H → Nat
  | (.string bytes, d) => bytes.length + uptoBulk d + 1
  | (_, d) => uptoBulk d + 1
 end
def uptoSmall : (H : Type) → List (DataW H) → Bool := fun _ ds => decide (uptoBulkAll ds ≤ 1048576)
def OpenSpec.upto (s : _root_.Go.ChangeSpec) : _root_.Go.OpenSpec := { _root_.Go.OpenSpec.ofChange s with cond := some uptoSmall }

/-- 'astragallaw06.Gf2Tells', WHERE WHAT IT READS IS OF BULK AT MOST 1048576: true; the input reads as it did. -/
def gf2TellsUptoRow : OpenClaim := { program := "ythiahpkodnfdcaadoor", sum := "29e45937dbd46d945ac995ec7e30ff20370c13f080ef124a0e29bb530aae3b00", func := "astragal/astragallaw06.Gf2Tells", spec := "gf2Tells", named := ["math/bits.deBruijn64tab"], apart := false, laid := [("math/bits.deBruijn64tab", laid_math_bits_deBruijn64tab)], narrowed := true }
def Gf2TellsUptoSaid : Prop := gf2TellsUptoRow.holds Tryd.pinned (OpenSpec.upto gf2TellsSpec)

/-- 'astragallaw06.Gf2Common', WHERE WHAT IT READS IS OF BULK AT MOST 1048576: true; the input reads as it did. -/
def gf2CommonUptoRow : OpenClaim := { program := "ythiahpkodnfdcaadoor", sum := "29e45937dbd46d945ac995ec7e30ff20370c13f080ef124a0e29bb530aae3b00", func := "astragal/astragallaw06.Gf2Common", spec := "gf2Common", named := ["math/bits.deBruijn64tab"], apart := false, laid := [("math/bits.deBruijn64tab", laid_math_bits_deBruijn64tab)], narrowed := true }
def Gf2CommonUptoSaid : Prop := gf2CommonUptoRow.holds Tryd.pinned (OpenSpec.upto gf2CommonSpec)

/-- 'astragallaw06.Gf2Reckons', WHERE WHAT IT READS IS OF BULK AT MOST 1048576: true; the input reads as it did. -/
def gf2ReckonsUptoRow : OpenClaim := { program := "ythiahpkodnfdcaadoor", sum := "29e45937dbd46d945ac995ec7e30ff20370c13f080ef124a0e29bb530aae3b00", func := "astragal/astragallaw06.Gf2Reckons", spec := "gf2Reckons", named := ["math/bits.deBruijn64tab"], apart := false, laid := [("math/bits.deBruijn64tab", laid_math_bits_deBruijn64tab)], narrowed := true }
def Gf2ReckonsUptoSaid : Prop := gf2ReckonsUptoRow.holds Tryd.pinned (OpenSpec.upto gf2ReckonsSpec)

/-- 'astragallaw06.Gf2Divides', WHERE WHAT IT READS IS OF BULK AT MOST 1048576: true; the input reads as it did. -/
def gf2DividesUptoRow : OpenClaim := { program := "ythiahpkodnfdcaadoor", sum := "29e45937dbd46d945ac995ec7e30ff20370c13f080ef124a0e29bb530aae3b00", func := "astragal/astragallaw06.Gf2Divides", spec := "gf2Divides", named := ["math/bits.deBruijn64tab"], apart := false, laid := [("math/bits.deBruijn64tab", laid_math_bits_deBruijn64tab)], narrowed := true }
def Gf2DividesUptoSaid : Prop := gf2DividesUptoRow.holds Tryd.pinned (OpenSpec.upto gf2DividesSpec)

/-- 'astragallaw06.Gf2Powers', WHERE WHAT IT READS IS OF BULK AT MOST 1048576: true; the input reads as it did. -/
def gf2PowersUptoRow : OpenClaim := { program := "ythiahpkodnfdcaadoor", sum := "29e45937dbd46d945ac995ec7e30ff20370c13f080ef124a0e29bb530aae3b00", func := "astragal/astragallaw06.Gf2Powers", spec := "gf2Powers", inPlace := ["math/bits.Add64"], named := ["math/bits.deBruijn64tab"], apart := false, laid := [("math/bits.deBruijn64tab", laid_math_bits_deBruijn64tab)], narrowed := true }
def Gf2PowersUptoSaid : Prop := gf2PowersUptoRow.holds Tryd.pinned (OpenSpec.upto gf2PowersSpec)

end Rows
end Go.Proofs.YthiahpkodnfdcaaDoor
