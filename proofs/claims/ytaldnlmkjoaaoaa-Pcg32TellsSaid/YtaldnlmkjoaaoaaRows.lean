/-
  No cell of these rows narrows 'for every input' (looked for: loops, veiled, ifaces, maps, wideKeys, modest, calm, conditions, laid).
  DERIVED. THE GIVEN ROWS OF THIS SEAT. 10 by the template 'for every input the law returns true; each argument reads behind the call as it read before'; 0 by the template 'total and deterministic' (their statements: YtaldnlmkjoaaoaaTotals.lean).
  GIVEN WITH THE SEED: the statements are not yours to turn. If you find one false, say at which input.
  Laid BY PROGRAM, IN A SANDBOX (cutbox-rows.mjs): the forced cells as the released guide's own fill.sh prints them over the translation 33da4293ddc8a8e7… (all of the seat's roots in one cut). By AI agents, Wed Nov 11 2026. No macro, syntax, notation, axiom, sorry.
-/
import Derived.Test.YtaldnlmkjoaaoaaChecked
import GoSem.Claim
import GoSem.ClaimJoined
import GoSem.ClaimMapViews
import Derived.JoinedTies
import Derived.KernelRfl
namespace Go.Proofs.Ytaldnlmkjoaaoaa
/- THE CELL 'sum', in the pinned program and in every row, IS THE sha256 OF THE DUMP (.gsa) THAT YtaldnlmkjoaaoaaProg.lean LOADS. Nothing in Lean hashes anything: it is a label: what it is worth is what the hold of that sum in a sandbox is worth. -/
noncomputable def Try.pinned : Pinned := { name := "ytaldnlmkjoaaoaa", sum := "33da4293ddc8a8e7b9395c20411b0e4105433b7adda28b5405fbd63fb7b64120", checked := Try.checked }
namespace Rows
def none {H : Type} : Left H := { results := [], args := [] }

/-- 'astragallaw13.Pcg32Seeds': WHATEVER THE INPUT: true; the input reads as it did. -/
def pcg32SeedsSpec : ChangeSpec := { name := "pcg32Seeds", fn := fun _ => fun
  | [d1, d2] => { results := [.lit (.bool true)], args := [d1, d2] }
  | _ => none }
def pcg32SeedsRow : OpenClaim := { program := "ytaldnlmkjoaaoaa", sum := "33da4293ddc8a8e7b9395c20411b0e4105433b7adda28b5405fbd63fb7b64120", func := "astragal/astragallaw13.Pcg32Seeds", spec := "pcg32Seeds", apart := false }
def Pcg32SeedsSaid : Prop := pcg32SeedsRow.holds Try.pinned (OpenSpec.ofChange pcg32SeedsSpec)

/-- ITS FALSE NEIGHBOUR: 'it returns false'. Refute it at one input. -/
def pcg32SeedsWrong : ChangeSpec := { name := "pcg32Seeds", fn := fun _ => fun
  | [d1, d2] => { results := [.lit (.bool false)], args := [d1, d2] }
  | _ => none }
def Pcg32SeedsWrongFalsely : Prop := pcg32SeedsRow.holds Try.pinned (OpenSpec.ofChange pcg32SeedsWrong)

/-- 'astragallaw13.Pcg32Advances': WHATEVER THE INPUT: true; the input reads as it did. -/
def pcg32AdvancesSpec : ChangeSpec := { name := "pcg32Advances", fn := fun _ => fun
  | [d1, d2, d3, d4] => { results := [.lit (.bool true)], args := [d1, d2, d3, d4] }
  | _ => none }
def pcg32AdvancesRow : OpenClaim := { program := "ytaldnlmkjoaaoaa", sum := "33da4293ddc8a8e7b9395c20411b0e4105433b7adda28b5405fbd63fb7b64120", func := "astragal/astragallaw13.Pcg32Advances", spec := "pcg32Advances", apart := false }
def Pcg32AdvancesSaid : Prop := pcg32AdvancesRow.holds Try.pinned (OpenSpec.ofChange pcg32AdvancesSpec)

/-- ITS FALSE NEIGHBOUR: 'it returns false'. Refute it at one input. -/
def pcg32AdvancesWrong : ChangeSpec := { name := "pcg32Advances", fn := fun _ => fun
  | [d1, d2, d3, d4] => { results := [.lit (.bool false)], args := [d1, d2, d3, d4] }
  | _ => none }
def Pcg32AdvancesWrongFalsely : Prop := pcg32AdvancesRow.holds Try.pinned (OpenSpec.ofChange pcg32AdvancesWrong)

/-- 'astragallaw07.MixMakes': WHATEVER THE INPUT: true; the input reads as it did. -/
def mixMakesSpec : ChangeSpec := { name := "mixMakes", fn := fun _ => fun
  | [d1, d2, d3] => { results := [.lit (.bool true)], args := [d1, d2, d3] }
  | _ => none }
def mixMakesRow : OpenClaim := { program := "ytaldnlmkjoaaoaa", sum := "33da4293ddc8a8e7b9395c20411b0e4105433b7adda28b5405fbd63fb7b64120", func := "astragal/astragallaw07.MixMakes", spec := "mixMakes", unfollowed := true, recurses := true, apart := false }
def MixMakesSaid : Prop := mixMakesRow.holds Try.pinned (OpenSpec.ofChange mixMakesSpec)

/-- ITS FALSE NEIGHBOUR: 'it returns false'. Refute it at one input. -/
def mixMakesWrong : ChangeSpec := { name := "mixMakes", fn := fun _ => fun
  | [d1, d2, d3] => { results := [.lit (.bool false)], args := [d1, d2, d3] }
  | _ => none }
def MixMakesWrongFalsely : Prop := mixMakesRow.holds Try.pinned (OpenSpec.ofChange mixMakesWrong)

/-- 'astragallaw07.MixApart': WHATEVER THE INPUT: true; the input reads as it did. -/
def mixApartSpec : ChangeSpec := { name := "mixApart", fn := fun _ => fun
  | [d1, d2, d3, d4] => { results := [.lit (.bool true)], args := [d1, d2, d3, d4] }
  | _ => none }
def mixApartRow : OpenClaim := { program := "ytaldnlmkjoaaoaa", sum := "33da4293ddc8a8e7b9395c20411b0e4105433b7adda28b5405fbd63fb7b64120", func := "astragal/astragallaw07.MixApart", spec := "mixApart", unfollowed := true, recurses := true, apart := false }
def MixApartSaid : Prop := mixApartRow.holds Try.pinned (OpenSpec.ofChange mixApartSpec)

/-- ITS FALSE NEIGHBOUR: 'it returns false'. Refute it at one input. -/
def mixApartWrong : ChangeSpec := { name := "mixApart", fn := fun _ => fun
  | [d1, d2, d3, d4] => { results := [.lit (.bool false)], args := [d1, d2, d3, d4] }
  | _ => none }
def MixApartWrongFalsely : Prop := mixApartRow.holds Try.pinned (OpenSpec.ofChange mixApartWrong)

/-- 'astragallaw08.SplitTells': WHATEVER THE INPUT: true; the input reads as it did. -/
def splitTellsSpec : ChangeSpec := { name := "splitTells", fn := fun _ => fun
  | [d1, d2] => { results := [.lit (.bool true)], args := [d1, d2] }
  | _ => none }
def splitTellsRow : OpenClaim := { program := "ytaldnlmkjoaaoaa", sum := "33da4293ddc8a8e7b9395c20411b0e4105433b7adda28b5405fbd63fb7b64120", func := "astragal/astragallaw08.SplitTells", spec := "splitTells", unfollowed := true, recurses := true, apart := false }
def SplitTellsSaid : Prop := splitTellsRow.holds Try.pinned (OpenSpec.ofChange splitTellsSpec)

/-- ITS FALSE NEIGHBOUR: 'it returns false'. Refute it at one input. -/
def splitTellsWrong : ChangeSpec := { name := "splitTells", fn := fun _ => fun
  | [d1, d2] => { results := [.lit (.bool false)], args := [d1, d2] }
  | _ => none }
def SplitTellsWrongFalsely : Prop := splitTellsRow.holds Try.pinned (OpenSpec.ofChange splitTellsWrong)

/-- 'astragallaw08.SplitJumps': WHATEVER THE INPUT: true; the input reads as it did. -/
def splitJumpsSpec : ChangeSpec := { name := "splitJumps", fn := fun _ => fun
  | [d1, d2, d3, d4] => { results := [.lit (.bool true)], args := [d1, d2, d3, d4] }
  | _ => none }
def splitJumpsRow : OpenClaim := { program := "ytaldnlmkjoaaoaa", sum := "33da4293ddc8a8e7b9395c20411b0e4105433b7adda28b5405fbd63fb7b64120", func := "astragal/astragallaw08.SplitJumps", spec := "splitJumps", unfollowed := true, recurses := true, apart := false }
def SplitJumpsSaid : Prop := splitJumpsRow.holds Try.pinned (OpenSpec.ofChange splitJumpsSpec)

/-- ITS FALSE NEIGHBOUR: 'it returns false'. Refute it at one input. -/
def splitJumpsWrong : ChangeSpec := { name := "splitJumps", fn := fun _ => fun
  | [d1, d2, d3, d4] => { results := [.lit (.bool false)], args := [d1, d2, d3, d4] }
  | _ => none }
def SplitJumpsWrongFalsely : Prop := splitJumpsRow.holds Try.pinned (OpenSpec.ofChange splitJumpsWrong)

/-- 'astragallaw13.Pcg32Tells': WHATEVER THE INPUT: true; the input reads as it did. -/
def pcg32TellsSpec : ChangeSpec := { name := "pcg32Tells", fn := fun _ => fun
  | [d1, d2, d3] => { results := [.lit (.bool true)], args := [d1, d2, d3] }
  | _ => none }
def pcg32TellsRow : OpenClaim := { program := "ytaldnlmkjoaaoaa", sum := "33da4293ddc8a8e7b9395c20411b0e4105433b7adda28b5405fbd63fb7b64120", func := "astragal/astragallaw13.Pcg32Tells", spec := "pcg32Tells", unfollowed := true, recurses := true, apart := false }
def Pcg32TellsSaid : Prop := pcg32TellsRow.holds Try.pinned (OpenSpec.ofChange pcg32TellsSpec)

/-- ITS FALSE NEIGHBOUR: 'it returns false'. Refute it at one input. -/
def pcg32TellsWrong : ChangeSpec := { name := "pcg32Tells", fn := fun _ => fun
  | [d1, d2, d3] => { results := [.lit (.bool false)], args := [d1, d2, d3] }
  | _ => none }
def Pcg32TellsWrongFalsely : Prop := pcg32TellsRow.holds Try.pinned (OpenSpec.ofChange pcg32TellsWrong)

/-- 'astragallaw13.Pcg32Period': WHATEVER THE INPUT: true; the input reads as it did. -/
def pcg32PeriodSpec : ChangeSpec := { name := "pcg32Period", fn := fun _ => fun
  | [d1, d2, d3, d4] => { results := [.lit (.bool true)], args := [d1, d2, d3, d4] }
  | _ => none }
def pcg32PeriodRow : OpenClaim := { program := "ytaldnlmkjoaaoaa", sum := "33da4293ddc8a8e7b9395c20411b0e4105433b7adda28b5405fbd63fb7b64120", func := "astragal/astragallaw13.Pcg32Period", spec := "pcg32Period", apart := false }
def Pcg32PeriodSaid : Prop := pcg32PeriodRow.holds Try.pinned (OpenSpec.ofChange pcg32PeriodSpec)

/-- ITS FALSE NEIGHBOUR: 'it returns false'. Refute it at one input. -/
def pcg32PeriodWrong : ChangeSpec := { name := "pcg32Period", fn := fun _ => fun
  | [d1, d2, d3, d4] => { results := [.lit (.bool false)], args := [d1, d2, d3, d4] }
  | _ => none }
def Pcg32PeriodWrongFalsely : Prop := pcg32PeriodRow.holds Try.pinned (OpenSpec.ofChange pcg32PeriodWrong)

/-- 'astragallaw08.SplitAll': WHATEVER THE INPUT: true; the input reads as it did. -/
def splitAllSpec : ChangeSpec := { name := "splitAll", fn := fun _ => fun
  | [d1, d2, d3] => { results := [.lit (.bool true)], args := [d1, d2, d3] }
  | _ => none }
def splitAllRow : OpenClaim := { program := "ytaldnlmkjoaaoaa", sum := "33da4293ddc8a8e7b9395c20411b0e4105433b7adda28b5405fbd63fb7b64120", func := "astragal/astragallaw08.SplitAll", spec := "splitAll", unfollowed := true, recurses := true, apart := false }
def SplitAllSaid : Prop := splitAllRow.holds Try.pinned (OpenSpec.ofChange splitAllSpec)

/-- ITS FALSE NEIGHBOUR: 'it returns false'. Refute it at one input. -/
def splitAllWrong : ChangeSpec := { name := "splitAll", fn := fun _ => fun
  | [d1, d2, d3] => { results := [.lit (.bool false)], args := [d1, d2, d3] }
  | _ => none }
def SplitAllWrongFalsely : Prop := splitAllRow.holds Try.pinned (OpenSpec.ofChange splitAllWrong)

/-- 'astragallaw07.MixBack': WHATEVER THE INPUT: true; the input reads as it did. -/
def mixBackSpec : ChangeSpec := { name := "mixBack", fn := fun _ => fun
  | [d1, d2, d3] => { results := [.lit (.bool true)], args := [d1, d2, d3] }
  | _ => none }
def mixBackRow : OpenClaim := { program := "ytaldnlmkjoaaoaa", sum := "33da4293ddc8a8e7b9395c20411b0e4105433b7adda28b5405fbd63fb7b64120", func := "astragal/astragallaw07.MixBack", spec := "mixBack", unfollowed := true, recurses := true, apart := false }
def MixBackSaid : Prop := mixBackRow.holds Try.pinned (OpenSpec.ofChange mixBackSpec)

/-- ITS FALSE NEIGHBOUR: 'it returns false'. Refute it at one input. -/
def mixBackWrong : ChangeSpec := { name := "mixBack", fn := fun _ => fun
  | [d1, d2, d3] => { results := [.lit (.bool false)], args := [d1, d2, d3] }
  | _ => none }
def MixBackWrongFalsely : Prop := mixBackRow.holds Try.pinned (OpenSpec.ofChange mixBackWrong)

/- THE SECOND FORM. 'bulk': how many values and letters a reading holds, each counted each time it is reached (what is shared counts as often as it is met; a slice's spare places count too). A statement '..UptoSaid' is the law's where the arguments, and the package variables that the reading takes, are together of bulk at most 1048576: NARROWER than '..Said'. Prove '..Said' where nothing that the law and all that it calls make is longer than what came in: it says more and counts as full. Else prove '..UptoSaid'. A law counts once. -/
mutual
def uptoBulk {H : Type} : DataW H → Nat
  | .lit (.string bytes) => bytes.length + 1
  | .lit _ => 1
  | .nil => 1
  | .ptr d => uptoBulk d + 1
  | .slice elems spare => uptoBulkAll elems + uptoBulkAll spare + 1
  | .agg parts => uptoBulkAll parts + 1
  | .iface _ d => uptoBulk d + 1
  | .map entries => uptoBulkEntries entries + 1
  | .held _ => 1
def uptoBulkAll {H : Type} : List (DataW H) → Nat
  | [] => 0
  | d :: r => uptoBulk d + uptoBulkAll r
def uptoBulkEntries {H : Type} : List (Lit × DataW H) → Nat
  | [] => 0
  | x :: r => uptoBulkEntry x + uptoBulkEntries r
def uptoBulkEntry {H : Type} : Lit × DataW H → Nat
  | (.string bytes, d) => bytes.length + uptoBulk d + 1
  | (_, d) => uptoBulk d + 1
 end
def uptoSmall : (H : Type) → List (DataW H) → Bool := fun _ ds => decide (uptoBulkAll ds ≤ 1048576)
def OpenSpec.upto (s : _root_.Go.ChangeSpec) : _root_.Go.OpenSpec := { _root_.Go.OpenSpec.ofChange s with cond := some uptoSmall }

/-- 'astragallaw13.Pcg32Seeds', WHERE WHAT IT READS IS OF BULK AT MOST 1048576: true; the input reads as it did. -/
def pcg32SeedsUptoRow : OpenClaim := { program := "ytaldnlmkjoaaoaa", sum := "33da4293ddc8a8e7b9395c20411b0e4105433b7adda28b5405fbd63fb7b64120", func := "astragal/astragallaw13.Pcg32Seeds", spec := "pcg32Seeds", apart := false, narrowed := true }
def Pcg32SeedsUptoSaid : Prop := pcg32SeedsUptoRow.holds Try.pinned (OpenSpec.upto pcg32SeedsSpec)

/-- 'astragallaw13.Pcg32Advances', WHERE WHAT IT READS IS OF BULK AT MOST 1048576: true; the input reads as it did. -/
def pcg32AdvancesUptoRow : OpenClaim := { program := "ytaldnlmkjoaaoaa", sum := "33da4293ddc8a8e7b9395c20411b0e4105433b7adda28b5405fbd63fb7b64120", func := "astragal/astragallaw13.Pcg32Advances", spec := "pcg32Advances", apart := false, narrowed := true }
def Pcg32AdvancesUptoSaid : Prop := pcg32AdvancesUptoRow.holds Try.pinned (OpenSpec.upto pcg32AdvancesSpec)

/-- 'astragallaw07.MixMakes', WHERE WHAT IT READS IS OF BULK AT MOST 1048576: true; the input reads as it did. -/
def mixMakesUptoRow : OpenClaim := { program := "ytaldnlmkjoaaoaa", sum := "33da4293ddc8a8e7b9395c20411b0e4105433b7adda28b5405fbd63fb7b64120", func := "astragal/astragallaw07.MixMakes", spec := "mixMakes", unfollowed := true, recurses := true, apart := false, narrowed := true }
def MixMakesUptoSaid : Prop := mixMakesUptoRow.holds Try.pinned (OpenSpec.upto mixMakesSpec)

/-- 'astragallaw07.MixApart', WHERE WHAT IT READS IS OF BULK AT MOST 1048576: true; the input reads as it did. -/
def mixApartUptoRow : OpenClaim := { program := "ytaldnlmkjoaaoaa", sum := "33da4293ddc8a8e7b9395c20411b0e4105433b7adda28b5405fbd63fb7b64120", func := "astragal/astragallaw07.MixApart", spec := "mixApart", unfollowed := true, recurses := true, apart := false, narrowed := true }
def MixApartUptoSaid : Prop := mixApartUptoRow.holds Try.pinned (OpenSpec.upto mixApartSpec)

/-- 'astragallaw08.SplitTells', WHERE WHAT IT READS IS OF BULK AT MOST 1048576: true; the input reads as it did. -/
def splitTellsUptoRow : OpenClaim := { program := "ytaldnlmkjoaaoaa", sum := "33da4293ddc8a8e7b9395c20411b0e4105433b7adda28b5405fbd63fb7b64120", func := "astragal/astragallaw08.SplitTells", spec := "splitTells", unfollowed := true, recurses := true, apart := false, narrowed := true }
def SplitTellsUptoSaid : Prop := splitTellsUptoRow.holds Try.pinned (OpenSpec.upto splitTellsSpec)

/-- 'astragallaw08.SplitJumps', WHERE WHAT IT READS IS OF BULK AT MOST 1048576: true; the input reads as it did. -/
def splitJumpsUptoRow : OpenClaim := { program := "ytaldnlmkjoaaoaa", sum := "33da4293ddc8a8e7b9395c20411b0e4105433b7adda28b5405fbd63fb7b64120", func := "astragal/astragallaw08.SplitJumps", spec := "splitJumps", unfollowed := true, recurses := true, apart := false, narrowed := true }
def SplitJumpsUptoSaid : Prop := splitJumpsUptoRow.holds Try.pinned (OpenSpec.upto splitJumpsSpec)

/-- 'astragallaw13.Pcg32Tells', WHERE WHAT IT READS IS OF BULK AT MOST 1048576: true; the input reads as it did. -/
def pcg32TellsUptoRow : OpenClaim := { program := "ytaldnlmkjoaaoaa", sum := "33da4293ddc8a8e7b9395c20411b0e4105433b7adda28b5405fbd63fb7b64120", func := "astragal/astragallaw13.Pcg32Tells", spec := "pcg32Tells", unfollowed := true, recurses := true, apart := false, narrowed := true }
def Pcg32TellsUptoSaid : Prop := pcg32TellsUptoRow.holds Try.pinned (OpenSpec.upto pcg32TellsSpec)

/-- 'astragallaw13.Pcg32Period', WHERE WHAT IT READS IS OF BULK AT MOST 1048576: true; the input reads as it did. -/
def pcg32PeriodUptoRow : OpenClaim := { program := "ytaldnlmkjoaaoaa", sum := "33da4293ddc8a8e7b9395c20411b0e4105433b7adda28b5405fbd63fb7b64120", func := "astragal/astragallaw13.Pcg32Period", spec := "pcg32Period", apart := false, narrowed := true }
def Pcg32PeriodUptoSaid : Prop := pcg32PeriodUptoRow.holds Try.pinned (OpenSpec.upto pcg32PeriodSpec)

/-- 'astragallaw08.SplitAll', WHERE WHAT IT READS IS OF BULK AT MOST 1048576: true; the input reads as it did. -/
def splitAllUptoRow : OpenClaim := { program := "ytaldnlmkjoaaoaa", sum := "33da4293ddc8a8e7b9395c20411b0e4105433b7adda28b5405fbd63fb7b64120", func := "astragal/astragallaw08.SplitAll", spec := "splitAll", unfollowed := true, recurses := true, apart := false, narrowed := true }
def SplitAllUptoSaid : Prop := splitAllUptoRow.holds Try.pinned (OpenSpec.upto splitAllSpec)

/-- 'astragallaw07.MixBack', WHERE WHAT IT READS IS OF BULK AT MOST 1048576: true; the input reads as it did. -/
def mixBackUptoRow : OpenClaim := { program := "ytaldnlmkjoaaoaa", sum := "33da4293ddc8a8e7b9395c20411b0e4105433b7adda28b5405fbd63fb7b64120", func := "astragal/astragallaw07.MixBack", spec := "mixBack", unfollowed := true, recurses := true, apart := false, narrowed := true }
def MixBackUptoSaid : Prop := mixBackUptoRow.holds Try.pinned (OpenSpec.upto mixBackSpec)

end Rows
end Go.Proofs.Ytaldnlmkjoaaoaa
