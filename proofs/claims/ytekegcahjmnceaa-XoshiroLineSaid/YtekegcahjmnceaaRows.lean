/-
  No cell of these rows narrows 'for every input' (looked for: loops, veiled, ifaces, maps, wideKeys, modest, calm, conditions, laid).
  DERIVED. THE GIVEN ROWS OF THIS SEAT. 4 by the template 'for every input the law returns true; each argument reads behind the call as it read before'; 0 by the template 'total and deterministic' (their statements: YtekegcahjmnceaaTotals.lean).
  GIVEN WITH THE SEED: the statements are not yours to turn. If you find one false, say at which input.
  Laid BY PROGRAM, IN A SANDBOX (cutbox-rows.mjs): the forced cells as the released guide's own fill.sh prints them over the translation 946971793c7abc04… (all of the seat's roots in one cut). By AI agents, Wed Nov 11 2026. No macro, syntax, notation, axiom, sorry.
-/
import Derived.Test.YtekegcahjmnceaaChecked
import GoSem.Claim
import GoSem.ClaimJoined
import GoSem.ClaimMapViews
import Derived.JoinedTies
import Derived.KernelRfl
namespace Go.Proofs.Ytekegcahjmnceaa
/- THE CELL 'sum', in the pinned program and in every row, IS THE sha256 OF THE DUMP (.gsa) THAT YtekegcahjmnceaaProg.lean LOADS. Nothing in Lean hashes anything: it is a label: what it is worth is what the hold of that sum in a sandbox is worth. -/
noncomputable def Try.pinned : Pinned := { name := "ytekegcahjmnceaa", sum := "946971793c7abc0435d7988ec1bfe82149b3031b26fba96e5adabb1badc97469", checked := Try.checked }
namespace Rows
def none {H : Type} : Left H := { results := [], args := [] }

/-- 'astragallaw09.XoshiroBack': WHATEVER THE INPUT: true; the input reads as it did. -/
def xoshiroBackSpec : ChangeSpec := { name := "xoshiroBack", fn := fun _ => fun
  | [d1, d2] => { results := [.lit (.bool true)], args := [d1, d2] }
  | _ => none }
def xoshiroBackRow : OpenClaim := { program := "ytekegcahjmnceaa", sum := "946971793c7abc0435d7988ec1bfe82149b3031b26fba96e5adabb1badc97469", func := "astragal/astragallaw09.XoshiroBack", spec := "xoshiroBack", unfollowed := true, recurses := true, apart := false }
def XoshiroBackSaid : Prop := xoshiroBackRow.holds Try.pinned (OpenSpec.ofChange xoshiroBackSpec)

/-- ITS FALSE NEIGHBOUR: 'it returns false'. Refute it at one input. -/
def xoshiroBackWrong : ChangeSpec := { name := "xoshiroBack", fn := fun _ => fun
  | [d1, d2] => { results := [.lit (.bool false)], args := [d1, d2] }
  | _ => none }
def XoshiroBackWrongFalsely : Prop := xoshiroBackRow.holds Try.pinned (OpenSpec.ofChange xoshiroBackWrong)

/-- 'astragallaw09.XoshiroTells': WHATEVER THE INPUT: true; the input reads as it did. -/
def xoshiroTellsSpec : ChangeSpec := { name := "xoshiroTells", fn := fun _ => fun
  | [d] => { results := [.lit (.bool true)], args := [d] }
  | _ => none }
def xoshiroTellsRow : OpenClaim := { program := "ytekegcahjmnceaa", sum := "946971793c7abc0435d7988ec1bfe82149b3031b26fba96e5adabb1badc97469", func := "astragal/astragallaw09.XoshiroTells", spec := "xoshiroTells", unfollowed := true, recurses := true, apart := false }
def XoshiroTellsSaid : Prop := xoshiroTellsRow.holds Try.pinned (OpenSpec.ofChange xoshiroTellsSpec)

/-- ITS FALSE NEIGHBOUR: 'it returns false'. Refute it at one input. -/
def xoshiroTellsWrong : ChangeSpec := { name := "xoshiroTells", fn := fun _ => fun
  | [d] => { results := [.lit (.bool false)], args := [d] }
  | _ => none }
def XoshiroTellsWrongFalsely : Prop := xoshiroTellsRow.holds Try.pinned (OpenSpec.ofChange xoshiroTellsWrong)

/-- 'astragallaw09.XoshiroLine': WHATEVER THE INPUT: true; the input reads as it did. -/
def xoshiroLineSpec : ChangeSpec := { name := "xoshiroLine", fn := fun _ => fun
  | [d1, d2] => { results := [.lit (.bool true)], args := [d1, d2] }
  | _ => none }
def xoshiroLineRow : OpenClaim := { program := "ytekegcahjmnceaa", sum := "946971793c7abc0435d7988ec1bfe82149b3031b26fba96e5adabb1badc97469", func := "astragal/astragallaw09.XoshiroLine", spec := "xoshiroLine", unfollowed := true, recurses := true, apart := false }
def XoshiroLineSaid : Prop := xoshiroLineRow.holds Try.pinned (OpenSpec.ofChange xoshiroLineSpec)

/-- ITS FALSE NEIGHBOUR: 'it returns false'. Refute it at one input. -/
def xoshiroLineWrong : ChangeSpec := { name := "xoshiroLine", fn := fun _ => fun
  | [d1, d2] => { results := [.lit (.bool false)], args := [d1, d2] }
  | _ => none }
def XoshiroLineWrongFalsely : Prop := xoshiroLineRow.holds Try.pinned (OpenSpec.ofChange xoshiroLineWrong)

/-- 'astragallaw09.XoshiroSeeds': WHATEVER THE INPUT: true; the input reads as it did. -/
def xoshiroSeedsSpec : ChangeSpec := { name := "xoshiroSeeds", fn := fun _ => fun
  | [d1, d2] => { results := [.lit (.bool true)], args := [d1, d2] }
  | _ => none }
def xoshiroSeedsRow : OpenClaim := { program := "ytekegcahjmnceaa", sum := "946971793c7abc0435d7988ec1bfe82149b3031b26fba96e5adabb1badc97469", func := "astragal/astragallaw09.XoshiroSeeds", spec := "xoshiroSeeds", unfollowed := true, recurses := true, apart := false }
def XoshiroSeedsSaid : Prop := xoshiroSeedsRow.holds Try.pinned (OpenSpec.ofChange xoshiroSeedsSpec)

/-- ITS FALSE NEIGHBOUR: 'it returns false'. Refute it at one input. -/
def xoshiroSeedsWrong : ChangeSpec := { name := "xoshiroSeeds", fn := fun _ => fun
  | [d1, d2] => { results := [.lit (.bool false)], args := [d1, d2] }
  | _ => none }
def XoshiroSeedsWrongFalsely : Prop := xoshiroSeedsRow.holds Try.pinned (OpenSpec.ofChange xoshiroSeedsWrong)

/- THE SECOND FORM. 'bulk': how many values and letters a reading holds, each counted each time it is reached (what is shared counts as often as it is met; a slice's spare places count too). A statement '..UptoSaid' is the law's where the arguments, and the package variables that the reading takes, are together of bulk at most 1048576: NARROWER than '..Said'. Prove '..Said' where nothing that the law and all that it calls make is longer than what came in: it says more and counts as full. Else prove '..UptoSaid'. A law counts once. -/
mutual
def uptoBulk {H : Type} : DataW H → Nat
  | .lit (.string bytes) => bytes.length + 1
  | .lit _ => 1
  | .nil => 1
  | .ptr d => uptoBulk d + 1
  | .slice elems spare => uptoBulkAll elems + uptoBulkAll spare + 1
  | .agg parts => uptoBulkAll parts + 1
  | .iface _ d => uptoBulk d + 1
  | .map entries => uptoBulkEntries entries + 1
  | .held _ => 1
def uptoBulkAll {H : Type} : List (DataW H) → Nat
  | [] => 0
  | d :: r => uptoBulk d + uptoBulkAll r
def uptoBulkEntries {H : Type} : List (Lit × DataW H) → Nat
  | [] => 0
  | x :: r => uptoBulkEntry x + uptoBulkEntries r
def uptoBulkEntry {H : Type} : Lit × DataW H → Nat
  | (.string bytes, d) => bytes.length + uptoBulk d + 1
  | (_, d) => uptoBulk d + 1
 end
def uptoSmall : (H : Type) → List (DataW H) → Bool := fun _ ds => decide (uptoBulkAll ds ≤ 1048576)
def OpenSpec.upto (s : _root_.Go.ChangeSpec) : _root_.Go.OpenSpec := { _root_.Go.OpenSpec.ofChange s with cond := some uptoSmall }

/-- 'astragallaw09.XoshiroBack', WHERE WHAT IT READS IS OF BULK AT MOST 1048576: true; the input reads as it did. -/
def xoshiroBackUptoRow : OpenClaim := { program := "ytekegcahjmnceaa", sum := "946971793c7abc0435d7988ec1bfe82149b3031b26fba96e5adabb1badc97469", func := "astragal/astragallaw09.XoshiroBack", spec := "xoshiroBack", unfollowed := true, recurses := true, apart := false, narrowed := true }
def XoshiroBackUptoSaid : Prop := xoshiroBackUptoRow.holds Try.pinned (OpenSpec.upto xoshiroBackSpec)

/-- 'astragallaw09.XoshiroTells', WHERE WHAT IT READS IS OF BULK AT MOST 1048576: true; the input reads as it did. -/
def xoshiroTellsUptoRow : OpenClaim := { program := "ytekegcahjmnceaa", sum := "946971793c7abc0435d7988ec1bfe82149b3031b26fba96e5adabb1badc97469", func := "astragal/astragallaw09.XoshiroTells", spec := "xoshiroTells", unfollowed := true, recurses := true, apart := false, narrowed := true }
def XoshiroTellsUptoSaid : Prop := xoshiroTellsUptoRow.holds Try.pinned (OpenSpec.upto xoshiroTellsSpec)

/-- 'astragallaw09.XoshiroLine', WHERE WHAT IT READS IS OF BULK AT MOST 1048576: true; the input reads as it did. -/
def xoshiroLineUptoRow : OpenClaim := { program := "ytekegcahjmnceaa", sum := "946971793c7abc0435d7988ec1bfe82149b3031b26fba96e5adabb1badc97469", func := "astragal/astragallaw09.XoshiroLine", spec := "xoshiroLine", unfollowed := true, recurses := true, apart := false, narrowed := true }
def XoshiroLineUptoSaid : Prop := xoshiroLineUptoRow.holds Try.pinned (OpenSpec.upto xoshiroLineSpec)

/-- 'astragallaw09.XoshiroSeeds', WHERE WHAT IT READS IS OF BULK AT MOST 1048576: true; the input reads as it did. -/
def xoshiroSeedsUptoRow : OpenClaim := { program := "ytekegcahjmnceaa", sum := "946971793c7abc0435d7988ec1bfe82149b3031b26fba96e5adabb1badc97469", func := "astragal/astragallaw09.XoshiroSeeds", spec := "xoshiroSeeds", unfollowed := true, recurses := true, apart := false, narrowed := true }
def XoshiroSeedsUptoSaid : Prop := xoshiroSeedsUptoRow.holds Try.pinned (OpenSpec.upto xoshiroSeedsSpec)

end Rows
end Go.Proofs.Ytekegcahjmnceaa
