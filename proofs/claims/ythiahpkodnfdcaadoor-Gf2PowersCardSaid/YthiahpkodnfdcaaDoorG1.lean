/- The walks of chapter 6: words cut, the degree, a coefficient, the product of two words. No condition but on lengths and the table of trailing zeros. -/
import Derived.Test.YthiahpkodnfdcaaDoorPlG
import Derived.Test.YthiahpkodnfdcaaDoorTab
import Derived.RegionTactic
import Derived.BigRegion
import Derived.WalkMore
import Derived.Deep.LoopGhost
import Derived.Deep.CutBlock
import Derived.Deep.DeepCutAuto
import Derived.Laws.NewBlocks
import Derived.ChangeAlike
namespace Go.Proofs.YthiahpkodnfdcaaDoor
open Go.RowKit
theorem ui_toNat (x : BitVec 64) : ui x = (x.toNat : Int) := rfl
theorem below_new (w : World) (o : Obj) : Below w.heap.size w (w.alloc o) := (Below.refl _ _).alloc (Nat.le_refl _) _
theorem getD_at {α : Type} (xs : List α) (i : Nat) (d : α) (h : i < xs.length) : xs.getD i d = xs[i] := by simp [List.getD, h]
theorem slV_pos {w : World} {v : Value} {us : List Value} (h : SlV w v us) (hp : 0 < us.length) : ∃ b o cap, v = .slice (some ⟨b, o, none⟩) us.length cap ∧ ∀ i u, us[i]? = some u → w.cell? ⟨b, o + i, none⟩ = some u := by
  rcases h with ⟨rfl, _⟩ | h
  · simp at hp
  · exact h
/-- a slice of words, with its room -/
def SlK (w : World) (v : Value) (xs : List (BitVec 64)) : Prop := SlV w v (vals xs) ∧ CapOk v
theorem SlK.below {w w' : World} {v : Value} {xs : List (BitVec 64)} (h : SlK w v xs) (hb : Below w.heap.size w w') : SlK w' v xs := ⟨h.1.below hb, h.2⟩
theorem SlK.nil (w : World) : SlK w (.slice none 0 0) [] := ⟨SlV.nil w, none, 0, 0, rfl, Nat.le_refl _⟩
theorem SlK.cases {w : World} {v : Value} {xs : List (BitVec 64)} (h : SlK w v xs) :
    (xs = [] ∧ ∃ ao cap, v = .slice ao 0 cap) ∨ (0 < xs.length ∧ ∃ b o cap, v = .slice (some ⟨b, o, none⟩) xs.length cap ∧ xs.length ≤ cap ∧ ∀ i, (hi : i < xs.length) → w.cell? ⟨b, o + i, none⟩ = some (.int .u64 (ui xs[i]))) := by
  obtain ⟨h1, ao, n, cap, e, hn⟩ := h
  rcases h1.cases with ⟨h0, ao', cap', rfl⟩ | ⟨b, o, cap', rfl, hp, hc⟩
  · have : xs = [] := by simpa [vals] using h0
    exact .inl ⟨this, _, _, rfl⟩
  · rw [vals_length] at *
    injection e with e1 e2 e3
    subst e2 e3
    exact .inr ⟨hp, b, o, cap', rfl, hn, fun i hi => hc i _ (vals_get xs i hi)⟩
theorem SlK.mk' {w : World} {b o cap n : Nat} {xs : List (BitVec 64)} (hl : xs.length = n) (hn : n ≤ cap) (hc : ∀ i, (hi : i < xs.length) → w.cell? ⟨b, o + i, none⟩ = some (.int .u64 (ui xs[i]))) : SlK w (.slice (some ⟨b, o, none⟩) n cap) xs := by
  refine ⟨.inr ⟨b, o, cap, by rw [vals_length, hl], fun i u hu => ?_⟩, _, _, _, rfl, hn⟩
  have hi : i < xs.length := by
    have := (List.getElem?_eq_some_iff.1 hu).1
    rwa [vals_length] at this
  rw [vals_get xs i hi] at hu
  injection hu with hu
  rw [← hu]; exact hc i hi
theorem SlK.zero {w : World} (ao : Option Addr) (cap : Nat) : SlK w (.slice ao 0 cap) [] := ⟨.inl ⟨rfl, ao, cap, rfl⟩, ao, 0, cap, rfl, Nat.zero_le _⟩
/-- words that are returned -/
def RW (w0 : World) (xs : List (BitVec 64)) (e : Ending) (w' : World) : Prop := ∃ v, e = .returned v ∧ SlK w' v xs ∧ (0 < xs.length → w'.ownsRow w0.heap.size 37 1 v xs.length (vals xs)) ∧ Below w0.heap.size w0 w'
theorem clone_w (v : Value) (xs : List (BitVec 64)) (hl : xs.length ≤ 17592186044416) (w : World) (hx : SlV w v (vals xs)) :
    Calls Tryd.prog 33 #[v] w (RW w xs) := by
  refine (clone_any v xs hl w hx).mono ?_
  rintro e w' ⟨v', rfl, h1, h2, h3⟩
  refine ⟨v', rfl, ⟨h1, ?_⟩, h2, h3⟩
  rcases Nat.eq_zero_or_pos xs.length with h0 | h0
  · have e : xs = [] := List.length_eq_zero_iff.1 h0
    subst e
    obtain ⟨ao, cap, rfl⟩ := slV_len h1
    exact ⟨ao, _, cap, rfl, Nat.zero_le _⟩
  · rcases (h2 h0).2 with ⟨_, h⟩ | ⟨g, cap, cur, rfl, _, _, hn, _⟩
    · omega
    · exact ⟨_, _, _, rfl, hn⟩
theorem cut_ex (xs : List (BitVec 64)) : ∃ n, n ≤ xs.length ∧ (∀ i, n ≤ i → (hi : i < xs.length) → xs[i] = 0#64) ∧ (n = 0 ∨ ∃ hi : n - 1 < xs.length, xs[n - 1] ≠ 0#64) := by
  have key : ∀ m, m ≤ xs.length → (∀ i, m ≤ i → (hi : i < xs.length) → xs[i] = 0#64) → ∃ n, n ≤ xs.length ∧ (∀ i, n ≤ i → (hi : i < xs.length) → xs[i] = 0#64) ∧ (n = 0 ∨ ∃ hi : n - 1 < xs.length, xs[n - 1] ≠ 0#64) := by
    intro m
    induction m with
    | zero => intro h1 h2; exact ⟨0, h1, h2, .inl rfl⟩
    | succ m ih =>
      intro h1 h2
      by_cases h0 : xs[m] = 0#64
      · refine ih (by omega) fun i hi hx => ?_
        by_cases e : i = m
        · subst e; exact h0
        · exact h2 i (by omega) hx
      · exact ⟨m + 1, h1, h2, .inr ⟨by omega, by simpa using h0⟩⟩
  exact key xs.length (Nat.le_refl _) (fun i h1 h2 => by omega)
theorem trim_any (v : Value) (xs : List (BitVec 64)) (w : World) (h : SlK w v xs) (hl : xs.length ≤ 100000) :
    Calls Tryd.prog 15 #[v] w (RW w (cw (nv xs))) := by
  rcases h.cases with ⟨rfl, ao, cap, rfl⟩ | ⟨hp, b, o, cap, rfl, hcap, hc⟩
  · rw [show nv [] = 0 from rfl, cw_zero]
    clear h
    by_cases hcp : cap = 0
    · subst hcp
      go_enter Tryd.func15, Tryd.ntmps15
      go_wp2_with fail
      go_loop [3] (fun i => i = .int .i64 0) (fun _ => 0)
      case atStart => rfl
      case round =>
        obtain rfl := hrel
        go_wp2_with fail
        refine (clone_w _ [] (by simp) _ (SlK.zero _ _).1).mono ?_
        rintro e w1 ⟨v1, rfl, h1, h2, h3⟩
        go_wp2_with fail
        go_ret
        exact ⟨v1, rfl, h1, h2, h3⟩
    · go_enter Tryd.func15, Tryd.ntmps15
      go_wp2_with fail
      go_loop [3] (fun i => i = .int .i64 0) (fun _ => 0)
      case atStart => rfl
      case round =>
        obtain rfl := hrel
        go_wp2_with fail
        refine (clone_w _ [] (by simp) _ (SlK.zero _ _).1).mono ?_
        rintro e w1 ⟨v1, rfl, h1, h2, h3⟩
        go_wp2_with fail
        go_ret
        exact ⟨v1, rfl, h1, h2, h3⟩
  · obtain ⟨n, hn, hz, ht⟩ := cut_ex xs
    rw [cw_take xs n hn hz ht]
    have hS : SlV w (.slice (some ⟨b, o, none⟩) n cap) (vals (xs.take n)) :=
      (SlK.mk' (by rw [List.length_take]; omega) (by omega) (fun i hi => by
        rw [List.length_take] at hi
        rw [List.getElem_take]
        exact hc i (by omega))).1
    have HS := Lib.hid hS
    have HC := Lib.hid hc
    have HZ := Lib.hid hz
    have HT := Lib.hid ht
    have hcp : ¬ cap = 0 := by omega
    clear h hS hc hz ht
    go_enter Tryd.func15, Tryd.ntmps15
    go_wp2_with fail
    go_loop [3] (fun i => ∃ k : Nat, n ≤ k ∧ k ≤ xs.length ∧ i = .int .i64 k) (fun i => (intOf i).toNat)
    case atStart => exact ⟨xs.length, hn, Nat.le_refl _, rfl⟩
    case round =>
      obtain ⟨k, hk1, hk2, rfl⟩ := hrel
      by_cases hlt : n < k
      · have hk0 : (0 : Int) < (k : Int) := by omega
        have c1 := HC.out (k - 1) (by omega)
        have hx0 := HZ.out (k - 1) (by omega) (by omega)
        rw [hx0] at c1
        have e1 : (o : Int) + ((k : Int) - 1) = ((o + (k - 1) : Nat) : Int) := by omega
        have e2 : ((k : Int) - 1).toNat = k - 1 := by omega
        have h1 : (k : Int) - 1 < (xs.length : Int) := by omega
        have h2 : (1 : Int) ≤ (k : Int) := by omega
        have h3 : (0 : Int) ≤ (k : Int) - 1 := by omega
        go_wp2_with fail
        go_round
        case rel => exact ⟨k - 1, by omega, by omega, by rw [show ((k - 1 : Nat) : Int) = (k : Int) - 1 by omega]⟩
        case measure => simp [intOf]; omega
      · obtain rfl : n = k := by omega
        clear hlt
        rcases Nat.eq_zero_or_pos n with h0 | h0
        · subst h0
          go_wp2_with fail
          refine (clone_w _ (xs.take 0) (by simp) _ HS.out).mono ?_
          rintro e w1 ⟨v1, rfl, h1, h2, h3⟩
          go_wp2_with fail
          go_ret
          exact ⟨v1, rfl, h1, h2, h3⟩
        · have hk0 : (0 : Int) < (n : Int) := by omega
          have c1 := HC.out (n - 1) (by omega)
          have hx0 : (xs[n - 1]'(by omega) == 0#64) = false := by
            rcases HT.out with h | ⟨_, h⟩
            · omega
            · simpa using h
          generalize xs[n - 1]'(by omega) = x at *
          have e1 : (o : Int) + ((n : Int) - 1) = ((o + (n - 1) : Nat) : Int) := by omega
          have e2 : ((n : Int) - 1).toNat = n - 1 := by omega
          have h1 : (n : Int) - 1 < (xs.length : Int) := by omega
          have h2 : (1 : Int) ≤ (n : Int) := by omega
          have h3 : (0 : Int) ≤ (n : Int) - 1 := by omega
          have h4 : (n : Int) ≤ (cap : Int) := by omega
          have h5 : n ≤ cap := by omega
          go_wp2_with fail
          refine (clone_w _ (xs.take n) (by rw [List.length_take]; omega) _ HS.out).mono ?_
          rintro e w1 ⟨v1, rfl, h1, h2, h3⟩
          go_wp2_with fail
          go_ret
          exact ⟨v1, rfl, h1, h2, h3⟩
theorem sz_bl (n : Nat) : sz n = bl n := rfl
theorem deg_none (v : Value) (xs : List (BitVec 64)) (w : World) (h : SlK w v xs) (hl : xs.length ≤ 100000) (hz : nv xs = 0) :
    Calls Tryd.prog 11 #[v] w fun e w' => e = .returned (.int .i64 (-1)) ∧ w = w' := by
  have h0 : ∀ i, (hi : i < xs.length) → xs[i] = 0#64 := by
    intro i hi
    apply BitVec.eq_of_toNat_eq
    apply Nat.eq_of_testBit_eq
    intro k
    by_cases hk : k < 64
    · have := nv_bit xs (64 * i + k)
      rw [hz, Nat.zero_testBit, show (64 * i + k) / 64 = i by omega, show (64 * i + k) % 64 = k by omega, getD_at xs i _ hi] at this
      rw [← this]; simp
    · rw [bit_big xs[i].isLt (by omega)]; simp
  rcases h.cases with ⟨rfl, ao, cap, rfl⟩ | ⟨hp, b, o, cap, rfl, hcap, hc⟩
  · clear h
    go_enter Tryd.func11, Tryd.ntmps11
    go_wp2_with fail
    go_loop [3] (fun i => i = .int .i64 (-1)) (fun _ => 0)
    case atStart => rfl
    case round =>
      obtain rfl := hrel
      go_wp2_with fail
      go_ret
      exact ⟨rfl, rfl⟩
  · have HC := Lib.hid hc
    have HZ := Lib.hid h0
    clear h hc h0 hz
    go_enter Tryd.func11, Tryd.ntmps11
    go_wp2_with fail
    go_loop [3] (fun i => ∃ k : Nat, k ≤ xs.length ∧ i = .int .i64 ((k : Int) - 1)) (fun i => (intOf i + 1).toNat)
    case atStart => exact ⟨xs.length, Nat.le_refl _, rfl⟩
    case round =>
      obtain ⟨k, hk, rfl⟩ := hrel
      by_cases hlt : 0 < k
      · have c1 := HC.out (k - 1) (by omega)
        rw [HZ.out (k - 1) (by omega)] at c1
        have e2 : ((k : Int) - 1).toNat = k - 1 := by omega
        have h1 : (k : Int) - 1 < (xs.length : Int) := by omega
        have h2 : (1 : Int) ≤ (k : Int) := by omega
        have h3 : (0 : Int) ≤ (k : Int) - 1 := by omega
        go_wp2_with fail
        go_round
        case rel => exact ⟨k - 1, by omega, by rw [show ((k - 1 : Nat) : Int) = (k : Int) - 1 by omega]⟩
        case measure => simp [intOf]; omega
      · obtain rfl : k = 0 := by omega
        go_wp2_with fail
        go_ret
        exact ⟨rfl, rfl⟩
theorem deg_some (v : Value) (xs : List (BitVec 64)) (w : World) (h : SlK w v xs) (hl : xs.length ≤ 100000) (hz : nv xs ≠ 0) :
    Calls Tryd.prog 11 #[v] w fun e w' => e = .returned (.int .i64 ((sz (nv xs) : Int) - 1)) ∧ w = w' := by
  obtain ⟨n, hn, hz0, ht⟩ := cut_ex xs
  have hn0 : n ≠ 0 := by
    rintro rfl
    exact hz (nv_zero xs (fun i hi => hz0 i (Nat.zero_le _) hi))
  obtain ⟨hi, hne⟩ : ∃ hi : n - 1 < xs.length, xs[n - 1] ≠ 0#64 := by
    rcases ht with h | h
    · exact absurd h hn0
    · exact h
  have hsz := nv_top xs (n - 1) hi hne (fun i h1 h2 => hz0 i (by omega) h2)
  rw [hsz]
  rcases h.cases with ⟨rfl, ao, cap, rfl⟩ | ⟨hp, b, o, cap, rfl, hcap, hc⟩
  · simp at hi
  · have hx0 : (xs[n - 1] == 0#64) = false := by simpa using hne
    have hx1 : (xs[n - 1] != 0#64) = true := by simpa using hne
    have hs : sz xs[n - 1].toNat ≤ 64 := sz_le.2 xs[n - 1].isLt
    have HC := Lib.hid hc
    have HZ := Lib.hid hz0
    have hX : w.cell? ⟨b, o + (n - 1), none⟩ = some (.int .u64 (ui xs[n - 1])) := hc (n - 1) hi
    generalize xs[n - 1] = x at *
    have HX := Lib.hid hX
    have HLen := Lib.hid (show ∀ w, Calls Tryd.prog 31 #[.int .u64 (ui x)] w fun e w' => e = .returned (.int .i64 (sz x.toNat)) ∧ w = w' from fun w => len64_any x w)
    generalize sz x.toNat = q at *
    clear h hc hz0 hz hsz ht hne hX
    go_enter Tryd.func11, Tryd.ntmps11
    go_wp2_with fail
    go_loop [3] (fun i => ∃ k : Nat, n ≤ k ∧ k ≤ xs.length ∧ i = .int .i64 ((k : Int) - 1)) (fun i => (intOf i + 1).toNat)
    case atStart => exact ⟨xs.length, hn, Nat.le_refl _, rfl⟩
    case round =>
      obtain ⟨k, hk1, hk, rfl⟩ := hrel
      have e2 : ((k : Int) - 1).toNat = k - 1 := by omega
      have h1 : (k : Int) - 1 < (xs.length : Int) := by omega
      have h2 : (1 : Int) ≤ (k : Int) := by omega
      have h3 : (0 : Int) ≤ (k : Int) - 1 := by omega
      by_cases hlt : n < k
      · have c1 := HC.out (k - 1) (by omega)
        rw [HZ.out (k - 1) (by omega) (by omega)] at c1
        go_wp2_with fail
        go_round
        case rel => exact ⟨k - 1, by omega, by omega, by rw [show ((k - 1 : Nat) : Int) = (k : Int) - 1 by omega]⟩
        case measure => simp [intOf]; omega
      · obtain rfl : n = k := by omega
        have c1 := HX.out
        clear hlt
        go_wp2_with fail
        refine (HLen.out _).mono ?_
        rintro e w' ⟨rfl, rfl⟩
        go_wp2_with fail
        go_ret
        exact ⟨ret_i64 (by omega), rfl⟩
theorem deg_any (v : Value) (xs : List (BitVec 64)) (w : World) (h : SlK w v xs) (hl : xs.length ≤ 100000) :
    Calls Tryd.prog 11 #[v] w fun e w' => e = .returned (.int .i64 ((sz (nv xs) : Int) - 1)) ∧ w = w' := by
  by_cases hz : nv xs = 0
  · have := deg_none v xs w h hl hz
    rw [hz, sz_zero]
    exact this
  · exact deg_some v xs w h hl hz
end Go.Proofs.YthiahpkodnfdcaaDoor
