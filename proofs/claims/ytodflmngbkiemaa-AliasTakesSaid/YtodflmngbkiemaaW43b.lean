/- The walks of chapter 43's functions that tell of a table that may be. No condition but on lengths. -/
import Derived.Test.YtodflmngbkiemaaWAl
namespace Go.Proofs.Ytodflmngbkiemaa
open Go.RowKit
/-- the cells of a slice -/
def SlC (w : World) (b o : Nat) (us : List Value) : Prop := ∀ i u, us[i]? = some u → w.cell? ⟨b, o + i, none⟩ = some u
theorem SlC.below {w w' : World} {b o : Nat} {us : List Value} (h : SlC w b o us) (hb : Below w.heap.size w w') : SlC w' b o us := by
  intro i u hu
  have h1 := h i u hu
  rw [hb.cell (p := ⟨b, o + i, none⟩) (World.block_lt_of_cell? w _ h1)]
  exact h1
theorem SlC.lt {w : World} {b o : Nat} {us : List Value} (h : SlC w b o us) (hp : 0 < us.length) : b < w.heap.size :=
  World.block_lt_of_cell? w _ (h 0 us[0] (List.getElem?_eq_getElem hp))
/-- the least of two -/
def mnB (u b : BitVec 64) : BitVec 64 := if ui b < ui u then b else u
@[go_sem] theorem ui_min (u b : BitVec 64) : min (ui u) (ui b) = ui (mnB u b) := by
  unfold mnB; split <;> omega
/-- how many pairs of a column with u below a number tell an item -/
def partB (b : BitVec 64) (a c j : Int) (u : BitVec 64) : BitVec 64 := (if c = j then mnB u b else 0#64) + (if a = j ∧ ui b < ui u then u - b else 0#64)
theorem part_any (T : BitVec 64) (bs : List (BitVec 64)) (ls : List Int) (b o cap b2 o2 cap2 : Nat) (w : World) (hc : SlC w b o (vals bs)) (hc2 : SlC w b2 o2 (ints ls)) (hn : ls.length = bs.length) (c : Nat) (hcn : c < bs.length) (j : Int) (u : BitVec 64) :
    Calls Try.prog 53 #[.agg #[.int .u64 (ui T), .slice (some ⟨b, o, none⟩) bs.length cap, .slice (some ⟨b2, o2, none⟩) bs.length cap2], .int .i64 c, .int .i64 j, .int .u64 (ui u)] w fun e w' => e = .returned (.int .u64 (ui (partB bs[c] (ls[c]'(by omega)) c j u))) ∧ Below w.heap.size w w' := by
  have c1 := hc c _ (vals_get bs c hcn)
  have c2 := hc2 c _ (ints_get ls c (by omega))
  have hlt : b < w.heap.size := World.block_lt_of_cell? w _ c1
  have hlt2 : b2 < w.heap.size := World.block_lt_of_cell? w _ c2
  have hc0 : (c : Int) < (bs.length : Int) := by omega
  have hc1 : (0 : Int) ≤ (c : Int) := by omega
  clear hc hc2
  generalize bs[c] = x at *
  generalize ls[c]'(by omega) = a at *
  by_cases hj : (c : Int) = j
  · subst hj
    by_cases ha : a = (c : Int)
    · subst ha
      by_cases hu : ui x < ui u
      · have hr : partB x c c c u = mnB u x + (u - x) := by
          unfold partB; rw [if_pos rfl, if_pos ⟨rfl, hu⟩]
        rw [hr]
        clear hr
        go_enter Try.func53, Try.ntmps53
        go_wp2_with fail
        go_ret
        exact ⟨rfl, below_new _ _⟩
      · have hr : partB x c c c u = mnB u x := by
          unfold partB; rw [if_pos rfl, if_neg (fun h => hu h.2), BitVec.add_zero]
        rw [hr]
        clear hr
        go_enter Try.func53, Try.ntmps53
        go_wp2_with fail
        go_ret
        exact ⟨rfl, below_new _ _⟩
    · have ha' : (a == (c : Int)) = false := by simpa using ha
      by_cases hu : ui x < ui u
      · have hr : partB x a c c u = mnB u x := by
          unfold partB; rw [if_pos rfl, if_neg (fun h => ha h.1), BitVec.add_zero]
        rw [hr]
        clear hr
        go_enter Try.func53, Try.ntmps53
        go_wp2_with fail
        go_ret
        exact ⟨rfl, below_new _ _⟩
      · have hr : partB x a c c u = mnB u x := by
          unfold partB; rw [if_pos rfl, if_neg (fun h => ha h.1), BitVec.add_zero]
        rw [hr]
        clear hr
        go_enter Try.func53, Try.ntmps53
        go_wp2_with fail
        go_ret
        exact ⟨rfl, below_new _ _⟩
  · have hj' : ((c : Int) == j) = false := by simpa using hj
    by_cases ha : a = j
    · subst ha
      by_cases hu : ui x < ui u
      · have hr : partB x a c a u = u - x := by
          unfold partB; rw [if_neg hj, if_pos ⟨rfl, hu⟩, BitVec.zero_add]
        rw [hr]
        clear hr
        go_enter Try.func53, Try.ntmps53
        go_wp2_with fail
        go_ret
        exact ⟨rfl, below_new _ _⟩
      · have hr : partB x a c a u = 0#64 := by
          unfold partB; rw [if_neg hj, if_neg (fun h => hu h.2), BitVec.zero_add]
        rw [hr]
        clear hr
        go_enter Try.func53, Try.ntmps53
        go_wp2_with fail
        go_ret
        exact ⟨rfl, below_new _ _⟩
    · have ha' : (a == j) = false := by simpa using ha
      have hr : partB x a c j u = 0#64 := by
        unfold partB; rw [if_neg hj, if_neg (fun h => ha h.1), BitVec.zero_add]
      rw [hr]
      clear hr
      go_enter Try.func53, Try.ntmps53
      go_wp2_with fail
      go_ret
      exact ⟨rfl, below_new _ _⟩
end Go.Proofs.Ytodflmngbkiemaa
