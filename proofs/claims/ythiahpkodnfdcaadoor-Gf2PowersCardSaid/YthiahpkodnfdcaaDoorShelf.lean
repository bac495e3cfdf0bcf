/- Contracts of Go's library at this dump: the length of a word, a copy of a slice: laid out of the library's contracts. No condition but on lengths. -/
import Derived.Shelf.Strconv.Itoa0
import Derived.Ground.SlgnProg
import Derived.Shelf.SlicesE.Clone
import Derived.Test.YthiahpkodnfdcaaDoorRows
import Derived.Test.YthiahpkodnfdcaaDoorPl01
import Derived.WalkKit
import Derived.WalkSpells
import Derived.WalkLawsBesides
import Derived.Outline
import Derived.Lib.Walk
import Derived.Lib.SliceRun
import Derived.Lib.Hide
namespace Go.Proofs.YthiahpkodnfdcaaDoor
open Go.Shelf Go.RowKit
def lays129_ren : Go.Shelf.Ren := ⟨fun | 129 => 31 | n => n, fun | 53 => 37 | 3 => 3 | 4 => 4 | 46 => 53 | 5 => 5 | 9 => 9 | n => n, fun | n => n⟩
theorem lays129 : Go.Proofs.Lays.n129 Tryd.prog lays129_ren := {
  mixed := by kernel_rfl
  f129 := Tryd.func31.trans (congrArg some (by kernel_rfl))
  t3 := Tryd.underlying3
  a3 := Tryd.isAgg3
  z3 := Tryd.sizeOf3
  v3 := Tryd.zeroValue3
  t4 := Tryd.underlying4
  a4 := Tryd.isAgg4
  z4 := Tryd.sizeOf4
  v4 := Tryd.zeroValue4
  t5 := Tryd.underlying5
  a5 := Tryd.isAgg5
  z5 := Tryd.sizeOf5
  v5 := Tryd.zeroValue5
  t9 := Tryd.underlying9
  a9 := Tryd.isAgg9
  z9 := Tryd.sizeOf9
  v9 := Tryd.zeroValue9
  t46 := Tryd.underlying53
  a46 := Tryd.isAgg53
  z46 := Tryd.sizeOf53
  v46 := Tryd.zeroValue53
  t53 := Tryd.underlying37
  a53 := Tryd.isAgg37
  z53 := Tryd.sizeOf37
  v53 := Tryd.zeroValue37 }
theorem bits_Len64 (x : Int) (w : World) (h0 : 0 ≤ x) (h1 : x ≤ 18446744073709551615) :
    Calls Tryd.prog 31 #[.int .u64 x] w fun e w' => e = .returned (.int .i64 (Go.Lib.bitLen x.toNat)) ∧ w' = w := Any.bits_Len64 lays129 x w h0 h1
def laysClone_ren : Go.Shelf.Ren := ⟨fun | 41 => 33 | n => n, fun | 22 => 22 | 23 => 37 | 4 => 4 | n => n, fun | n => n⟩
theorem laysClone : Go.Proofs.SlLaysE0.n41 Tryd.prog laysClone_ren := {
  mixed := by kernel_rfl
  f41 := ⟨Tryd.f33.name, by decide, Tryd.func33.trans (congrArg some (by kernel_rfl))⟩
  t4 := Tryd.underlying4
  a4 := Tryd.isAgg4
  z4 := Tryd.sizeOf4
  v4 := Tryd.zeroValue4
  t22 := Tryd.underlying22
  a22 := Tryd.isAgg22
  z22 := Tryd.sizeOf22
  v22 := Tryd.zeroValue22 }
theorem slices_Clone (i0 : TypeInfo) (z : Value) (size bytes : Nat) (hi : Tryd.prog.info? 37 = some i0) (hz0 : i0.zero = some z) (hz1 : i0.size = size) (hz2 : i0.bytes = bytes) (hzs : z.cells.size = size) (hsz : 0 < size) (z23 : ∀ w, (Go.sizeOf 37).run Tryd.prog w = .ok size w) (b off n c : Nat) (news : List Value) (w : World) (hl : news.length = n * size) (hn : n ≤ maxLen) (hbig : n * bytes ≤ 140737488355328) (hc : ∀ j u, news[j]? = some u → w.cell? ⟨b, off + j, none⟩ = some u) (h1 : ∀ u ∈ news, u.oneCell' = true) :
    Calls Tryd.prog 33 #[.slice (some ⟨b, off, none⟩) n c] w fun e w' => ∃ v', e = .returned v' ∧ w'.ownsRow w.heap.size 37 size v' n news ∧ v' ≠ .slice none 0 0 ∧ Below w.heap.size w w' := AnyE.slices_Clone laysClone i0 z size bytes hi hz0 hz1 hz2 hzs hsz z23 b off n c news w hl hn hbig hc h1
theorem slices_Clone_nil (n c : Nat) (w : World) :
    Calls Tryd.prog 33 #[.slice none n c] w fun e w' => e = .returned (.slice none 0 0) ∧ w' = w := AnyE.slices_Clone_nil laysClone n c w
theorem bitLen_bl (x : Nat) (h : x < 2 ^ 64) : Go.Lib.bitLen x = bl x := by
  have key : ∀ f x, x < 2 ^ f → Go.Lib.bitLenAux f x = bl x := by
    intro f
    induction f with
    | zero => intro x hx; obtain rfl : x = 0 := by simpa using hx
              rfl
    | succ f ih =>
      intro x hx
      unfold Go.Lib.bitLenAux
      by_cases h0 : x = 0
      · subst h0; rfl
      · rw [if_neg h0, ih (x / 2) (by rw [Nat.pow_succ] at hx; omega)]
        unfold bl
        rw [if_neg h0]
        by_cases h1 : x / 2 = 0
        · rw [if_pos h1]
          obtain rfl : x = 1 := by omega
          decide
        · rw [if_neg h1]
          have : x.log2 = (x / 2).log2 + 1 := by
            rw [Nat.log2_def x, if_pos (by omega)]
          omega
  exact key 64 x h
theorem len64_any (x : BitVec 64) (w : World) :
    Calls Tryd.prog 31 #[.int .u64 (ui x)] w fun e w' => e = .returned (.int .i64 (bl x.toNat)) ∧ w = w' :=
  (bits_Len64 (ui x) w (ui_nonneg x) (by have := ui_lt x; omega)).mono fun _ _ h => ⟨by rw [h.1]; unfold ui; rw [Int.toNat_natCast, bitLen_bl _ x.isLt], h.2.symm⟩
theorem sh_info_u64 : (Tryd.prog.info? 37).map (fun i => (i.zero, i.size, i.bytes)) = some (some (.int .u64 0), 1, 8) := by kernel_rfl
theorem vals_one (xs : List (BitVec 64)) : ∀ u ∈ vals xs, u.oneCell' = true := by
  intro u hu
  obtain ⟨x, _, rfl⟩ := List.mem_map.1 hu
  rfl
theorem clone_empty (ao : Option Addr) (cap : Nat) (w : World) :
    Calls Tryd.prog 33 #[.slice ao 0 cap] w fun e w' => ∃ v', e = .returned v' ∧ SlV w' v' [] ∧ Below w.heap.size w w' := by
  rcases ao with _ | a
  · refine (slices_Clone_nil 0 cap w).mono ?_
    rintro e w' ⟨rfl, rfl⟩
    exact ⟨_, rfl, SlV.nil _, Below.refl _ _⟩
  · obtain ⟨i0, hi, hz0, hz1, hz2⟩ := info_parts sh_info_u64
    have q22 : ∀ (w : World) (a : Option Addr) (n c n' c' : Nat), (binOp .eql 22 (.slice a n c) (.slice none n' c')).run Tryd.prog w = .ok (.bool a.isNone) w := fun w a n c n' c' => Lib.run_eql_slice_nil w _ _ a n c n' c' Tryd.underlying22
    go_enter Tryd.func33, Tryd.ntmps33
    go_wp2_with (at_builtin; refine wpList_append_own _ rfl _ _ 22 rfl w.heap.size 37 i0 (.int .u64 0) 1 8 Tryd.underlying22 hi hz0 hz1 hz2 (by kernel_rfl) (by decide) _ _ _ rfl (World.ownsRow_made w #[] 0 (Nat.le_refl _) (Nat.zero_le _) (by simp)) a 0 cap [] rfl ?qc1 ?qc2 ?qc3 ?qc4 ?qc5 ?qc6 ?_)
    case qc1 => rfl
    case qc2 => intro j u hj; simp at hj
    case qc3 => intro u hu; cases hu
    case qc4 => unfold maxLen; omega
    case qc5 => omega
    case qc6 => simp
    intro v' w1 hown hgrow hnil
    go_wp2_with fail
    go_ret
    refine ⟨v', rfl, ?_, ?_⟩
    · have h := SlV.of_owns hown
      simpa using h
    · exact ((Below.refl _ w).alloc (Nat.le_refl _) _).grown hgrow (by simp) (by intro k hk; simp [Value.ownBlock] at hk; omega)
theorem clone_any (v : Value) (xs : List (BitVec 64)) (hl : xs.length ≤ 17592186044416) (w : World) (hx : SlV w v (vals xs)) :
    Calls Tryd.prog 33 #[v] w fun e w' => ∃ v', e = .returned v' ∧ SlV w' v' (vals xs) ∧ (0 < xs.length → w'.ownsRow w.heap.size 37 1 v' xs.length (vals xs)) ∧ Below w.heap.size w w' := by
  obtain ⟨i0, hi, hz0, hz1, hz2⟩ := info_parts sh_info_u64
  rcases hx.cases with ⟨hn, ao, cap, rfl⟩ | ⟨b, o, cap, rfl, hpos, hc⟩
  · obtain rfl : xs = [] := by simpa [vals] using hn
    refine (clone_empty ao cap w).mono ?_
    rintro e w' ⟨v', rfl, h1, h2⟩
    exact ⟨v', rfl, h1, fun h => absurd h (by simp), h2⟩
  · rw [vals_length] at *
    refine (slices_Clone i0 (.int .u64 0) 1 8 hi hz0 hz1 hz2 (by kernel_rfl) (by decide) Tryd.sizeOf37 b o xs.length cap (vals xs) w (by rw [vals_length]; omega) (by unfold maxLen; omega) (by omega) hc (vals_one xs)).mono ?_
    rintro e w' ⟨v', rfl, h1, h2, h3⟩
    exact ⟨v', rfl, SlV.of_owns h1, fun _ => h1, h3⟩
end Go.Proofs.YthiahpkodnfdcaaDoor
