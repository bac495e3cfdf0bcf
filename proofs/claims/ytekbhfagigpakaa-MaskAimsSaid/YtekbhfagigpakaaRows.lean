/-
  No cell of these rows narrows 'for every input' (looked for: loops, veiled, ifaces, maps, wideKeys, modest, calm, conditions, laid).
  DERIVED. THE GIVEN ROWS OF THIS SEAT. 5 by the template 'for every input the law returns true; each argument reads behind the call as it read before'; 0 by the template 'total and deterministic' (their statements: YtekbhfagigpakaaTotals.lean).
  GIVEN WITH THE SEED: the statements are not yours to turn. If you find one false, say at which input.
  Laid BY PROGRAM, IN A SANDBOX (cutbox-rows.mjs): the forced cells as the released guide's own fill.sh prints them over the translation a9c2bddf46d7d6a4… (all of the seat's roots in one cut). By AI agents, Wed Nov 11 2026. No macro, syntax, notation, axiom, sorry.
-/
import Derived.Test.YtekbhfagigpakaaChecked
import GoSem.Claim
import GoSem.ClaimJoined
import GoSem.ClaimMapViews
import Derived.JoinedTies
import Derived.KernelRfl
namespace Go.Proofs.Ytekbhfagigpakaa
/- THE CELL 'sum', in the pinned program and in every row, IS THE sha256 OF THE DUMP (.gsa) THAT YtekbhfagigpakaaProg.lean LOADS. Nothing in Lean hashes anything: it is a label: what it is worth is what the hold of that sum in a sandbox is worth. -/
noncomputable def Try.pinned : Pinned := { name := "ytekbhfagigpakaa", sum := "a9c2bddf46d7d6a4c63d0a58e5dd66f668ac4e3826dd65e3f2f021024038076f", checked := Try.checked }
namespace Rows
def none {H : Type} : Left H := { results := [], args := [] }

/-- 'astragallaw39.MaskHalf': WHATEVER THE INPUT: true; the input reads as it did. -/
def maskHalfSpec : ChangeSpec := { name := "maskHalf", fn := fun _ => fun
  | [d] => { results := [.lit (.bool true)], args := [d] }
  | _ => none }
def maskHalfRow : OpenClaim := { program := "ytekbhfagigpakaa", sum := "a9c2bddf46d7d6a4c63d0a58e5dd66f668ac4e3826dd65e3f2f021024038076f", func := "astragal/astragallaw39.MaskHalf", spec := "maskHalf", unfollowed := true, recurses := true, apart := false }
def MaskHalfSaid : Prop := maskHalfRow.holds Try.pinned (OpenSpec.ofChange maskHalfSpec)

/-- ITS FALSE NEIGHBOUR: 'it returns false'. Refute it at one input. -/
def maskHalfWrong : ChangeSpec := { name := "maskHalf", fn := fun _ => fun
  | [d] => { results := [.lit (.bool false)], args := [d] }
  | _ => none }
def MaskHalfWrongFalsely : Prop := maskHalfRow.holds Try.pinned (OpenSpec.ofChange maskHalfWrong)

/-- 'astragallaw39.MaskTakes': WHATEVER THE INPUT: true; the input reads as it did. -/
def maskTakesSpec : ChangeSpec := { name := "maskTakes", fn := fun _ => fun
  | [d1, d2] => { results := [.lit (.bool true)], args := [d1, d2] }
  | _ => none }
def maskTakesRow : OpenClaim := { program := "ytekbhfagigpakaa", sum := "a9c2bddf46d7d6a4c63d0a58e5dd66f668ac4e3826dd65e3f2f021024038076f", func := "astragal/astragallaw39.MaskTakes", spec := "maskTakes", unfollowed := true, recurses := true, apart := false }
def MaskTakesSaid : Prop := maskTakesRow.holds Try.pinned (OpenSpec.ofChange maskTakesSpec)

/-- ITS FALSE NEIGHBOUR: 'it returns false'. Refute it at one input. -/
def maskTakesWrong : ChangeSpec := { name := "maskTakes", fn := fun _ => fun
  | [d1, d2] => { results := [.lit (.bool false)], args := [d1, d2] }
  | _ => none }
def MaskTakesWrongFalsely : Prop := maskTakesRow.holds Try.pinned (OpenSpec.ofChange maskTakesWrong)

/-- 'astragallaw39.MaskWords': WHATEVER THE INPUT: true; the input reads as it did. -/
def maskWordsSpec : ChangeSpec := { name := "maskWords", fn := fun _ => fun
  | [d1, d2] => { results := [.lit (.bool true)], args := [d1, d2] }
  | _ => none }
def maskWordsRow : OpenClaim := { program := "ytekbhfagigpakaa", sum := "a9c2bddf46d7d6a4c63d0a58e5dd66f668ac4e3826dd65e3f2f021024038076f", func := "astragal/astragallaw39.MaskWords", spec := "maskWords", unfollowed := true, recurses := true, apart := false }
def MaskWordsSaid : Prop := maskWordsRow.holds Try.pinned (OpenSpec.ofChange maskWordsSpec)

/-- ITS FALSE NEIGHBOUR: 'it returns false'. Refute it at one input. -/
def maskWordsWrong : ChangeSpec := { name := "maskWords", fn := fun _ => fun
  | [d1, d2] => { results := [.lit (.bool false)], args := [d1, d2] }
  | _ => none }
def MaskWordsWrongFalsely : Prop := maskWordsRow.holds Try.pinned (OpenSpec.ofChange maskWordsWrong)

/-- 'astragallaw39.MaskEven': WHATEVER THE INPUT: true; the input reads as it did. -/
def maskEvenSpec : ChangeSpec := { name := "maskEven", fn := fun _ => fun
  | [d1, d2, d3, d4] => { results := [.lit (.bool true)], args := [d1, d2, d3, d4] }
  | _ => none }
def maskEvenRow : OpenClaim := { program := "ytekbhfagigpakaa", sum := "a9c2bddf46d7d6a4c63d0a58e5dd66f668ac4e3826dd65e3f2f021024038076f", func := "astragal/astragallaw39.MaskEven", spec := "maskEven", unfollowed := true, recurses := true, apart := false }
def MaskEvenSaid : Prop := maskEvenRow.holds Try.pinned (OpenSpec.ofChange maskEvenSpec)

/-- ITS FALSE NEIGHBOUR: 'it returns false'. Refute it at one input. -/
def maskEvenWrong : ChangeSpec := { name := "maskEven", fn := fun _ => fun
  | [d1, d2, d3, d4] => { results := [.lit (.bool false)], args := [d1, d2, d3, d4] }
  | _ => none }
def MaskEvenWrongFalsely : Prop := maskEvenRow.holds Try.pinned (OpenSpec.ofChange maskEvenWrong)

/-- 'astragallaw39.MaskAims': WHATEVER THE INPUT: true; the input reads as it did. -/
def maskAimsSpec : ChangeSpec := { name := "maskAims", fn := fun _ => fun
  | [d1, d2, d3] => { results := [.lit (.bool true)], args := [d1, d2, d3] }
  | _ => none }
def maskAimsRow : OpenClaim := { program := "ytekbhfagigpakaa", sum := "a9c2bddf46d7d6a4c63d0a58e5dd66f668ac4e3826dd65e3f2f021024038076f", func := "astragal/astragallaw39.MaskAims", spec := "maskAims", unfollowed := true, recurses := true, apart := false }
def MaskAimsSaid : Prop := maskAimsRow.holds Try.pinned (OpenSpec.ofChange maskAimsSpec)

/-- ITS FALSE NEIGHBOUR: 'it returns false'. Refute it at one input. -/
def maskAimsWrong : ChangeSpec := { name := "maskAims", fn := fun _ => fun
  | [d1, d2, d3] => { results := [.lit (.bool false)], args := [d1, d2, d3] }
  | _ => none }
def MaskAimsWrongFalsely : Prop := maskAimsRow.holds Try.pinned (OpenSpec.ofChange maskAimsWrong)

/- THE SECOND FORM. 'bulk': how many values and letters a reading holds, each counted each time it is reached (what is shared counts as often as it is met; a slice's spare places count too). A statement '..UptoSaid' is the law's where the arguments, and the package variables that the reading takes, are together of bulk at most 1048576: NARROWER than '..Said'. Prove '..Said' where nothing that the law and all that it calls make is longer than what came in: it says more and counts as full. Else prove '..UptoSaid'. A law counts once. -/
mutual
def uptoBulk {H : Type} : DataW H → Nat
  | .lit (.string bytes) => bytes.length + 1
  | .lit _ => 1
  | .nil => 1
  | .ptr d => uptoBulk d + 1
  | .slice elems spare => uptoBulkAll elems + uptoBulkAll spare + 1
  | .agg parts => uptoBulkAll parts + 1
  | .iface _ d => uptoBulk d + 1
  | .map entries => uptoBulkEntries entries + 1
  | .held _ => 1
def uptoBulkAll {H : Type} : List (DataW H) → Nat
  | [] => 0
  | d :: r => uptoBulk d + uptoBulkAll r
def uptoBulkEntries {H : Type} : List (Lit × DataW H) → Nat
  | [] => 0
  | x :: r => uptoBulkEntry x + uptoBulkEntries r
def uptoBulkEntry {H : Type} : Lit × DataW H → Nat
  | (.string bytes, d) => bytes.length + uptoBulk d + 1
  | (_, d) => uptoBulk d + 1
 end
def uptoSmall : (H : Type) → List (DataW H) → Bool := fun _ ds => decide (uptoBulkAll ds ≤ 1048576)
def OpenSpec.upto (s : _root_.Go.ChangeSpec) : _root_.Go.OpenSpec := { _root_.Go.OpenSpec.ofChange s with cond := some uptoSmall }

/-- 'astragallaw39.MaskHalf', WHERE WHAT IT READS IS OF BULK AT MOST 1048576: true; the input reads as it did. -/
def maskHalfUptoRow : OpenClaim := { program := "ytekbhfagigpakaa", sum := "a9c2bddf46d7d6a4c63d0a58e5dd66f668ac4e3826dd65e3f2f021024038076f", func := "astragal/astragallaw39.MaskHalf", spec := "maskHalf", unfollowed := true, recurses := true, apart := false, narrowed := true }
def MaskHalfUptoSaid : Prop := maskHalfUptoRow.holds Try.pinned (OpenSpec.upto maskHalfSpec)

/-- 'astragallaw39.MaskTakes', WHERE WHAT IT READS IS OF BULK AT MOST 1048576: true; the input reads as it did. -/
def maskTakesUptoRow : OpenClaim := { program := "ytekbhfagigpakaa", sum := "a9c2bddf46d7d6a4c63d0a58e5dd66f668ac4e3826dd65e3f2f021024038076f", func := "astragal/astragallaw39.MaskTakes", spec := "maskTakes", unfollowed := true, recurses := true, apart := false, narrowed := true }
def MaskTakesUptoSaid : Prop := maskTakesUptoRow.holds Try.pinned (OpenSpec.upto maskTakesSpec)

/-- 'astragallaw39.MaskWords', WHERE WHAT IT READS IS OF BULK AT MOST 1048576: true; the input reads as it did. -/
def maskWordsUptoRow : OpenClaim := { program := "ytekbhfagigpakaa", sum := "a9c2bddf46d7d6a4c63d0a58e5dd66f668ac4e3826dd65e3f2f021024038076f", func := "astragal/astragallaw39.MaskWords", spec := "maskWords", unfollowed := true, recurses := true, apart := false, narrowed := true }
def MaskWordsUptoSaid : Prop := maskWordsUptoRow.holds Try.pinned (OpenSpec.upto maskWordsSpec)

/-- 'astragallaw39.MaskEven', WHERE WHAT IT READS IS OF BULK AT MOST 1048576: true; the input reads as it did. -/
def maskEvenUptoRow : OpenClaim := { program := "ytekbhfagigpakaa", sum := "a9c2bddf46d7d6a4c63d0a58e5dd66f668ac4e3826dd65e3f2f021024038076f", func := "astragal/astragallaw39.MaskEven", spec := "maskEven", unfollowed := true, recurses := true, apart := false, narrowed := true }
def MaskEvenUptoSaid : Prop := maskEvenUptoRow.holds Try.pinned (OpenSpec.upto maskEvenSpec)

/-- 'astragallaw39.MaskAims', WHERE WHAT IT READS IS OF BULK AT MOST 1048576: true; the input reads as it did. -/
def maskAimsUptoRow : OpenClaim := { program := "ytekbhfagigpakaa", sum := "a9c2bddf46d7d6a4c63d0a58e5dd66f668ac4e3826dd65e3f2f021024038076f", func := "astragal/astragallaw39.MaskAims", spec := "maskAims", unfollowed := true, recurses := true, apart := false, narrowed := true }
def MaskAimsUptoSaid : Prop := maskAimsUptoRow.holds Try.pinned (OpenSpec.upto maskAimsSpec)

end Rows
end Go.Proofs.Ytekbhfagigpakaa
