/-
  No cell of these rows narrows 'for every input' (looked for: loops, veiled, ifaces, maps, wideKeys, modest, calm, conditions, laid).
  DERIVED. THE GIVEN ROWS OF THIS SEAT. 10 by the template 'for every input the law returns true; each argument reads behind the call as it read before'; 0 by the template 'total and deterministic' (their statements: YtodflmngbkiemaaTotals.lean).
  GIVEN WITH THE SEED: the statements are not yours to turn. If you find one false, say at which input.
  Laid BY PROGRAM, IN A SANDBOX (cutbox-rows.mjs): the forced cells as the released guide's own fill.sh prints them over the translation 0b2c1da4c5e0bb57… (all of the seat's roots in one cut). By AI agents, Wed Nov 11 2026. No macro, syntax, notation, axiom, sorry.
-/
import Derived.Test.YtodflmngbkiemaaChecked
import GoSem.Claim
import GoSem.ClaimJoined
import GoSem.ClaimMapViews
import Derived.JoinedTies
import Derived.KernelRfl
namespace Go.Proofs.Ytodflmngbkiemaa
/- THE CELL 'sum', in the pinned program and in every row, IS THE sha256 OF THE DUMP (.gsa) THAT YtodflmngbkiemaaProg.lean LOADS. Nothing in Lean hashes anything: it is a label: what it is worth is what the hold of that sum in a sandbox is worth. -/
noncomputable def Try.pinned : Pinned := { name := "ytodflmngbkiemaa", sum := "0b2c1da4c5e0bb57cb7a6dc06704f3dc5e8f96592e03ab28e3daed25b99ed5b3", checked := Try.checked }
namespace Rows
def none {H : Type} : Left H := { results := [], args := [] }

/-- 'astragallaw43.AliasBuilds': WHATEVER THE INPUT: true; the input reads as it did. -/
def aliasBuildsSpec : ChangeSpec := { name := "aliasBuilds", fn := fun _ => fun
  | [d] => { results := [.lit (.bool true)], args := [d] }
  | _ => none }
def aliasBuildsRow : OpenClaim := { program := "ytodflmngbkiemaa", sum := "0b2c1da4c5e0bb57cb7a6dc06704f3dc5e8f96592e03ab28e3daed25b99ed5b3", func := "astragal/astragallaw43.AliasBuilds", spec := "aliasBuilds", unfollowed := true, recurses := true, apart := false }
def AliasBuildsSaid : Prop := aliasBuildsRow.holds Try.pinned (OpenSpec.ofChange aliasBuildsSpec)

/-- ITS FALSE NEIGHBOUR: 'it returns false'. Refute it at one input. -/
def aliasBuildsWrong : ChangeSpec := { name := "aliasBuilds", fn := fun _ => fun
  | [d] => { results := [.lit (.bool false)], args := [d] }
  | _ => none }
def AliasBuildsWrongFalsely : Prop := aliasBuildsRow.holds Try.pinned (OpenSpec.ofChange aliasBuildsWrong)

/-- 'astragallaw43.AliasWeighs': WHATEVER THE INPUT: true; the input reads as it did. -/
def aliasWeighsSpec : ChangeSpec := { name := "aliasWeighs", fn := fun _ => fun
  | [d] => { results := [.lit (.bool true)], args := [d] }
  | _ => none }
def aliasWeighsRow : OpenClaim := { program := "ytodflmngbkiemaa", sum := "0b2c1da4c5e0bb57cb7a6dc06704f3dc5e8f96592e03ab28e3daed25b99ed5b3", func := "astragal/astragallaw43.AliasWeighs", spec := "aliasWeighs", unfollowed := true, recurses := true, apart := false }
def AliasWeighsSaid : Prop := aliasWeighsRow.holds Try.pinned (OpenSpec.ofChange aliasWeighsSpec)

/-- ITS FALSE NEIGHBOUR: 'it returns false'. Refute it at one input. -/
def aliasWeighsWrong : ChangeSpec := { name := "aliasWeighs", fn := fun _ => fun
  | [d] => { results := [.lit (.bool false)], args := [d] }
  | _ => none }
def AliasWeighsWrongFalsely : Prop := aliasWeighsRow.holds Try.pinned (OpenSpec.ofChange aliasWeighsWrong)

/-- 'astragallaw43.AliasTells': WHATEVER THE INPUT: true; the input reads as it did. -/
def aliasTellsSpec : ChangeSpec := { name := "aliasTells", fn := fun _ => fun
  | [d1, d2, d3, d4] => { results := [.lit (.bool true)], args := [d1, d2, d3, d4] }
  | _ => none }
def aliasTellsRow : OpenClaim := { program := "ytodflmngbkiemaa", sum := "0b2c1da4c5e0bb57cb7a6dc06704f3dc5e8f96592e03ab28e3daed25b99ed5b3", func := "astragal/astragallaw43.AliasTells", spec := "aliasTells", unfollowed := true, recurses := true, apart := false }
def AliasTellsSaid : Prop := aliasTellsRow.holds Try.pinned (OpenSpec.ofChange aliasTellsSpec)

/-- ITS FALSE NEIGHBOUR: 'it returns false'. Refute it at one input. -/
def aliasTellsWrong : ChangeSpec := { name := "aliasTells", fn := fun _ => fun
  | [d1, d2, d3, d4] => { results := [.lit (.bool false)], args := [d1, d2, d3, d4] }
  | _ => none }
def AliasTellsWrongFalsely : Prop := aliasTellsRow.holds Try.pinned (OpenSpec.ofChange aliasTellsWrong)

/-- 'astragallaw43.AliasPairs': WHATEVER THE INPUT: true; the input reads as it did. -/
def aliasPairsSpec : ChangeSpec := { name := "aliasPairs", fn := fun _ => fun
  | [d1, d2, d3, d4, d5] => { results := [.lit (.bool true)], args := [d1, d2, d3, d4, d5] }
  | _ => none }
def aliasPairsRow : OpenClaim := { program := "ytodflmngbkiemaa", sum := "0b2c1da4c5e0bb57cb7a6dc06704f3dc5e8f96592e03ab28e3daed25b99ed5b3", func := "astragal/astragallaw43.AliasPairs", spec := "aliasPairs", unfollowed := true, recurses := true, apart := false }
def AliasPairsSaid : Prop := aliasPairsRow.holds Try.pinned (OpenSpec.ofChange aliasPairsSpec)

/-- ITS FALSE NEIGHBOUR: 'it returns false'. Refute it at one input. -/
def aliasPairsWrong : ChangeSpec := { name := "aliasPairs", fn := fun _ => fun
  | [d1, d2, d3, d4, d5] => { results := [.lit (.bool false)], args := [d1, d2, d3, d4, d5] }
  | _ => none }
def AliasPairsWrongFalsely : Prop := aliasPairsRow.holds Try.pinned (OpenSpec.ofChange aliasPairsWrong)

/-- 'astragallaw38.LemireHalf': WHATEVER THE INPUT: true; the input reads as it did. -/
def lemireHalfSpec : ChangeSpec := { name := "lemireHalf", fn := fun _ => fun
  | [d] => { results := [.lit (.bool true)], args := [d] }
  | _ => none }
def lemireHalfRow : OpenClaim := { program := "ytodflmngbkiemaa", sum := "0b2c1da4c5e0bb57cb7a6dc06704f3dc5e8f96592e03ab28e3daed25b99ed5b3", func := "astragal/astragallaw38.LemireHalf", spec := "lemireHalf", unfollowed := true, recurses := true, named := ["math/bits.divideError", "math/bits.overflowError"], apart := false }
def LemireHalfSaid : Prop := lemireHalfRow.holds Try.pinned (OpenSpec.ofChange lemireHalfSpec)

/-- ITS FALSE NEIGHBOUR: 'it returns false'. Refute it at one input. -/
def lemireHalfWrong : ChangeSpec := { name := "lemireHalf", fn := fun _ => fun
  | [d] => { results := [.lit (.bool false)], args := [d] }
  | _ => none }
def LemireHalfWrongFalsely : Prop := lemireHalfRow.holds Try.pinned (OpenSpec.ofChange lemireHalfWrong)

/-- 'astragallaw38.LemireTakes': WHATEVER THE INPUT: true; the input reads as it did. -/
def lemireTakesSpec : ChangeSpec := { name := "lemireTakes", fn := fun _ => fun
  | [d1, d2] => { results := [.lit (.bool true)], args := [d1, d2] }
  | _ => none }
def lemireTakesRow : OpenClaim := { program := "ytodflmngbkiemaa", sum := "0b2c1da4c5e0bb57cb7a6dc06704f3dc5e8f96592e03ab28e3daed25b99ed5b3", func := "astragal/astragallaw38.LemireTakes", spec := "lemireTakes", unfollowed := true, recurses := true, named := ["math/bits.divideError", "math/bits.overflowError"], apart := false }
def LemireTakesSaid : Prop := lemireTakesRow.holds Try.pinned (OpenSpec.ofChange lemireTakesSpec)

/-- ITS FALSE NEIGHBOUR: 'it returns false'. Refute it at one input. -/
def lemireTakesWrong : ChangeSpec := { name := "lemireTakes", fn := fun _ => fun
  | [d1, d2] => { results := [.lit (.bool false)], args := [d1, d2] }
  | _ => none }
def LemireTakesWrongFalsely : Prop := lemireTakesRow.holds Try.pinned (OpenSpec.ofChange lemireTakesWrong)

/-- 'astragallaw38.LemireWords': WHATEVER THE INPUT: true; the input reads as it did. -/
def lemireWordsSpec : ChangeSpec := { name := "lemireWords", fn := fun _ => fun
  | [d1, d2] => { results := [.lit (.bool true)], args := [d1, d2] }
  | _ => none }
def lemireWordsRow : OpenClaim := { program := "ytodflmngbkiemaa", sum := "0b2c1da4c5e0bb57cb7a6dc06704f3dc5e8f96592e03ab28e3daed25b99ed5b3", func := "astragal/astragallaw38.LemireWords", spec := "lemireWords", unfollowed := true, recurses := true, named := ["math/bits.divideError", "math/bits.overflowError"], apart := false }
def LemireWordsSaid : Prop := lemireWordsRow.holds Try.pinned (OpenSpec.ofChange lemireWordsSpec)

/-- ITS FALSE NEIGHBOUR: 'it returns false'. Refute it at one input. -/
def lemireWordsWrong : ChangeSpec := { name := "lemireWords", fn := fun _ => fun
  | [d1, d2] => { results := [.lit (.bool false)], args := [d1, d2] }
  | _ => none }
def LemireWordsWrongFalsely : Prop := lemireWordsRow.holds Try.pinned (OpenSpec.ofChange lemireWordsWrong)

/-- 'astragallaw38.LemireEven': WHATEVER THE INPUT: true; the input reads as it did. -/
def lemireEvenSpec : ChangeSpec := { name := "lemireEven", fn := fun _ => fun
  | [d1, d2, d3, d4] => { results := [.lit (.bool true)], args := [d1, d2, d3, d4] }
  | _ => none }
def lemireEvenRow : OpenClaim := { program := "ytodflmngbkiemaa", sum := "0b2c1da4c5e0bb57cb7a6dc06704f3dc5e8f96592e03ab28e3daed25b99ed5b3", func := "astragal/astragallaw38.LemireEven", spec := "lemireEven", unfollowed := true, recurses := true, named := ["math/bits.divideError", "math/bits.overflowError"], apart := false }
def LemireEvenSaid : Prop := lemireEvenRow.holds Try.pinned (OpenSpec.ofChange lemireEvenSpec)

/-- ITS FALSE NEIGHBOUR: 'it returns false'. Refute it at one input. -/
def lemireEvenWrong : ChangeSpec := { name := "lemireEven", fn := fun _ => fun
  | [d1, d2, d3, d4] => { results := [.lit (.bool false)], args := [d1, d2, d3, d4] }
  | _ => none }
def LemireEvenWrongFalsely : Prop := lemireEvenRow.holds Try.pinned (OpenSpec.ofChange lemireEvenWrong)

/-- 'astragallaw38.LemireAims': WHATEVER THE INPUT: true; the input reads as it did. -/
def lemireAimsSpec : ChangeSpec := { name := "lemireAims", fn := fun _ => fun
  | [d1, d2, d3] => { results := [.lit (.bool true)], args := [d1, d2, d3] }
  | _ => none }
def lemireAimsRow : OpenClaim := { program := "ytodflmngbkiemaa", sum := "0b2c1da4c5e0bb57cb7a6dc06704f3dc5e8f96592e03ab28e3daed25b99ed5b3", func := "astragal/astragallaw38.LemireAims", spec := "lemireAims", unfollowed := true, recurses := true, named := ["math/bits.divideError", "math/bits.overflowError"], apart := false }
def LemireAimsSaid : Prop := lemireAimsRow.holds Try.pinned (OpenSpec.ofChange lemireAimsSpec)

/-- ITS FALSE NEIGHBOUR: 'it returns false'. Refute it at one input. -/
def lemireAimsWrong : ChangeSpec := { name := "lemireAims", fn := fun _ => fun
  | [d1, d2, d3] => { results := [.lit (.bool false)], args := [d1, d2, d3] }
  | _ => none }
def LemireAimsWrongFalsely : Prop := lemireAimsRow.holds Try.pinned (OpenSpec.ofChange lemireAimsWrong)

/-- 'astragallaw43.AliasTakes': WHATEVER THE INPUT: true; the input reads as it did. -/
def aliasTakesSpec : ChangeSpec := { name := "aliasTakes", fn := fun _ => fun
  | [d1, d2] => { results := [.lit (.bool true)], args := [d1, d2] }
  | _ => none }
def aliasTakesRow : OpenClaim := { program := "ytodflmngbkiemaa", sum := "0b2c1da4c5e0bb57cb7a6dc06704f3dc5e8f96592e03ab28e3daed25b99ed5b3", func := "astragal/astragallaw43.AliasTakes", spec := "aliasTakes", unfollowed := true, recurses := true, named := ["math/bits.divideError", "math/bits.overflowError"], apart := false }
def AliasTakesSaid : Prop := aliasTakesRow.holds Try.pinned (OpenSpec.ofChange aliasTakesSpec)

/-- ITS FALSE NEIGHBOUR: 'it returns false'. Refute it at one input. -/
def aliasTakesWrong : ChangeSpec := { name := "aliasTakes", fn := fun _ => fun
  | [d1, d2] => { results := [.lit (.bool false)], args := [d1, d2] }
  | _ => none }
def AliasTakesWrongFalsely : Prop := aliasTakesRow.holds Try.pinned (OpenSpec.ofChange aliasTakesWrong)

/- THE SECOND FORM. 'bulk': how many values and letters a reading holds, each counted each time it is reached (what is shared counts as often as it is met; a slice's spare places count too). A statement '..UptoSaid' is the law's where the arguments, and the package variables that the reading takes, are together of bulk at most 1048576: NARROWER than '..Said'. Prove '..Said' where nothing that the law and all that it calls make is longer than what came in: it says more and counts as full. Else prove '..UptoSaid'. A law counts once. -/
mutual
def uptoBulk {H : Type} : DataW H → Nat
  | .lit (.string bytes) => bytes.length + 1
  | .lit _ => 1
  | .nil => 1
  | .ptr d => uptoBulk d + 1
  | .slice elems spare => uptoBulkAll elems + uptoBulkAll spare + 1
  | .agg parts => uptoBulkAll parts + 1
  | .iface _ d => uptoBulk d + 1
  | .map entries => uptoBulkEntries entries + 1
  | .held _ => 1
def uptoBulkAll {H : Type} : List (DataW H) → Nat
  | [] => 0
  | d :: r => uptoBulk d + uptoBulkAll r
def uptoBulkEntries {H : Type} : List (Lit × DataW H) → Nat
  | [] => 0
  | x :: r => uptoBulkEntry x + uptoBulkEntries r
def uptoBulkEntry {H : Type} : Lit × DataW H → Nat
  | (.string bytes, d) => bytes.length + uptoBulk d + 1
  | (_, d) => uptoBulk d + 1
 end
def uptoSmall : (H : Type) → List (DataW H) → Bool := fun _ ds => decide (uptoBulkAll ds ≤ 1048576)
def OpenSpec.upto (s : _root_.Go.ChangeSpec) : _root_.Go.OpenSpec := { _root_.Go.OpenSpec.ofChange s with cond := some uptoSmall }

/-- 'astragallaw43.AliasBuilds', WHERE WHAT IT READS IS OF BULK AT MOST 1048576: true; the input reads as it did. -/
def aliasBuildsUptoRow : OpenClaim := { program := "ytodflmngbkiemaa", sum := "0b2c1da4c5e0bb57cb7a6dc06704f3dc5e8f96592e03ab28e3daed25b99ed5b3", func := "astragal/astragallaw43.AliasBuilds", spec := "aliasBuilds", unfollowed := true, recurses := true, apart := false, narrowed := true }
def AliasBuildsUptoSaid : Prop := aliasBuildsUptoRow.holds Try.pinned (OpenSpec.upto aliasBuildsSpec)

/-- 'astragallaw43.AliasWeighs', WHERE WHAT IT READS IS OF BULK AT MOST 1048576: true; the input reads as it did. -/
def aliasWeighsUptoRow : OpenClaim := { program := "ytodflmngbkiemaa", sum := "0b2c1da4c5e0bb57cb7a6dc06704f3dc5e8f96592e03ab28e3daed25b99ed5b3", func := "astragal/astragallaw43.AliasWeighs", spec := "aliasWeighs", unfollowed := true, recurses := true, apart := false, narrowed := true }
def AliasWeighsUptoSaid : Prop := aliasWeighsUptoRow.holds Try.pinned (OpenSpec.upto aliasWeighsSpec)

/-- 'astragallaw43.AliasTells', WHERE WHAT IT READS IS OF BULK AT MOST 1048576: true; the input reads as it did. -/
def aliasTellsUptoRow : OpenClaim := { program := "ytodflmngbkiemaa", sum := "0b2c1da4c5e0bb57cb7a6dc06704f3dc5e8f96592e03ab28e3daed25b99ed5b3", func := "astragal/astragallaw43.AliasTells", spec := "aliasTells", unfollowed := true, recurses := true, apart := false, narrowed := true }
def AliasTellsUptoSaid : Prop := aliasTellsUptoRow.holds Try.pinned (OpenSpec.upto aliasTellsSpec)

/-- 'astragallaw43.AliasPairs', WHERE WHAT IT READS IS OF BULK AT MOST 1048576: true; the input reads as it did. -/
def aliasPairsUptoRow : OpenClaim := { program := "ytodflmngbkiemaa", sum := "0b2c1da4c5e0bb57cb7a6dc06704f3dc5e8f96592e03ab28e3daed25b99ed5b3", func := "astragal/astragallaw43.AliasPairs", spec := "aliasPairs", unfollowed := true, recurses := true, apart := false, narrowed := true }
def AliasPairsUptoSaid : Prop := aliasPairsUptoRow.holds Try.pinned (OpenSpec.upto aliasPairsSpec)

/-- 'astragallaw38.LemireHalf', WHERE WHAT IT READS IS OF BULK AT MOST 1048576: true; the input reads as it did. -/
def lemireHalfUptoRow : OpenClaim := { program := "ytodflmngbkiemaa", sum := "0b2c1da4c5e0bb57cb7a6dc06704f3dc5e8f96592e03ab28e3daed25b99ed5b3", func := "astragal/astragallaw38.LemireHalf", spec := "lemireHalf", unfollowed := true, recurses := true, named := ["math/bits.divideError", "math/bits.overflowError"], apart := false, narrowed := true }
def LemireHalfUptoSaid : Prop := lemireHalfUptoRow.holds Try.pinned (OpenSpec.upto lemireHalfSpec)

/-- 'astragallaw38.LemireTakes', WHERE WHAT IT READS IS OF BULK AT MOST 1048576: true; the input reads as it did. -/
def lemireTakesUptoRow : OpenClaim := { program := "ytodflmngbkiemaa", sum := "0b2c1da4c5e0bb57cb7a6dc06704f3dc5e8f96592e03ab28e3daed25b99ed5b3", func := "astragal/astragallaw38.LemireTakes", spec := "lemireTakes", unfollowed := true, recurses := true, named := ["math/bits.divideError", "math/bits.overflowError"], apart := false, narrowed := true }
def LemireTakesUptoSaid : Prop := lemireTakesUptoRow.holds Try.pinned (OpenSpec.upto lemireTakesSpec)

/-- 'astragallaw38.LemireWords', WHERE WHAT IT READS IS OF BULK AT MOST 1048576: true; the input reads as it did. -/
def lemireWordsUptoRow : OpenClaim := { program := "ytodflmngbkiemaa", sum := "0b2c1da4c5e0bb57cb7a6dc06704f3dc5e8f96592e03ab28e3daed25b99ed5b3", func := "astragal/astragallaw38.LemireWords", spec := "lemireWords", unfollowed := true, recurses := true, named := ["math/bits.divideError", "math/bits.overflowError"], apart := false, narrowed := true }
def LemireWordsUptoSaid : Prop := lemireWordsUptoRow.holds Try.pinned (OpenSpec.upto lemireWordsSpec)

/-- 'astragallaw38.LemireEven', WHERE WHAT IT READS IS OF BULK AT MOST 1048576: true; the input reads as it did. -/
def lemireEvenUptoRow : OpenClaim := { program := "ytodflmngbkiemaa", sum := "0b2c1da4c5e0bb57cb7a6dc06704f3dc5e8f96592e03ab28e3daed25b99ed5b3", func := "astragal/astragallaw38.LemireEven", spec := "lemireEven", unfollowed := true, recurses := true, named := ["math/bits.divideError", "math/bits.overflowError"], apart := false, narrowed := true }
def LemireEvenUptoSaid : Prop := lemireEvenUptoRow.holds Try.pinned (OpenSpec.upto lemireEvenSpec)

/-- 'astragallaw38.LemireAims', WHERE WHAT IT READS IS OF BULK AT MOST 1048576: true; the input reads as it did. -/
def lemireAimsUptoRow : OpenClaim := { program := "ytodflmngbkiemaa", sum := "0b2c1da4c5e0bb57cb7a6dc06704f3dc5e8f96592e03ab28e3daed25b99ed5b3", func := "astragal/astragallaw38.LemireAims", spec := "lemireAims", unfollowed := true, recurses := true, named := ["math/bits.divideError", "math/bits.overflowError"], apart := false, narrowed := true }
def LemireAimsUptoSaid : Prop := lemireAimsUptoRow.holds Try.pinned (OpenSpec.upto lemireAimsSpec)

/-- 'astragallaw43.AliasTakes', WHERE WHAT IT READS IS OF BULK AT MOST 1048576: true; the input reads as it did. -/
def aliasTakesUptoRow : OpenClaim := { program := "ytodflmngbkiemaa", sum := "0b2c1da4c5e0bb57cb7a6dc06704f3dc5e8f96592e03ab28e3daed25b99ed5b3", func := "astragal/astragallaw43.AliasTakes", spec := "aliasTakes", unfollowed := true, recurses := true, named := ["math/bits.divideError", "math/bits.overflowError"], apart := false, narrowed := true }
def AliasTakesUptoSaid : Prop := aliasTakesUptoRow.holds Try.pinned (OpenSpec.upto aliasTakesSpec)

end Rows
end Go.Proofs.Ytodflmngbkiemaa
