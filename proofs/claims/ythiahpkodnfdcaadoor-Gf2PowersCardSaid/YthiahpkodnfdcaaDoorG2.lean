/- The walks of chapter 6: a coefficient, the product of two words, sums. No condition but on lengths and the table of trailing zeros. -/
import Derived.Test.YthiahpkodnfdcaaDoorG1
import Derived.Test.YthiahpkodnfdcaaDoorPlG2
namespace Go.Proofs.YthiahpkodnfdcaaDoor
open Go.RowKit
/-- a coefficient -/
def coefB (N : Nat) (n : Int) : Bool := decide (0 ≤ n) && N.testBit n.toNat
theorem coef_any (v : Value) (xs : List (BitVec 64)) (w : World) (h : SlK w v xs) (hl : xs.length ≤ 100000) (n : Int) (hn : n ≤ 9223372036854775807) :
    Calls Tryd.prog 13 #[v, .int .i64 n] w fun e w' => e = .returned (.bool (coefB (nv xs) n)) ∧ w = w' := by
  by_cases h0 : n < 0
  · have hr : coefB (nv xs) n = false := by unfold coefB; rw [decide_eq_false (by omega)]; rfl
    rw [hr]
    have hd : decide (0 ≤ n) = false := by simpa using h0
    obtain ⟨ao, cap, rfl⟩ := slV_len h.1
    clear h hr
    go_enter Tryd.func13, Tryd.ntmps13
    go_wp2_with fail
    go_ret
    exact ⟨rfl, rfl⟩
  · obtain ⟨m, rfl⟩ : ∃ m : Nat, n = (m : Int) := ⟨n.toNat, by omega⟩
    have hr : coefB (nv xs) (m : Int) = (xs.getD (m / 64) 0#64).toNat.testBit (m % 64) := by
      unfold coefB; rw [decide_eq_true (by omega), Int.toNat_natCast, nv_bit]; rfl
    rw [hr]
    obtain ⟨i, hi⟩ : ∃ i, m / 64 = i := ⟨_, rfl⟩
    obtain ⟨j, hj⟩ : ∃ j, m % 64 = j := ⟨_, rfl⟩
    have hj64 : j < 64 := by omega
    have hmi : m = 64 * i + j := by omega
    have q1 : ((m : Int) / 64) = (i : Int) := by omega
    have q2 : ((m : Int) % 64) = (j : Int) := by omega
    rw [hi, hj]
    have hd : decide ((0 : Int) ≤ (m : Int)) = true := by simp
    clear hi hj hr
    rcases h.cases with ⟨rfl, ao, cap, rfl⟩ | ⟨hp, b, o, cap, rfl, hcap, hc⟩
    · clear h
      have h1 : ¬ (i : Int) < 0 := by omega
      rw [show (([] : List (BitVec 64)).getD i 0#64).toNat.testBit j = false by simp]
      clear hmi
      go_enter Tryd.func13, Tryd.ntmps13
      go_wp2_with fail
      go_ret
      exact ⟨rfl, rfl⟩
    · by_cases hlt : i < xs.length
      · have c1 := hc i hlt
        have h1 : (i : Int) < (xs.length : Int) := by omega
        have h2 : (0 : Int) ≤ (i : Int) := by omega
        have h3 : (0 : Int) ≤ (j : Int) := by omega
        rw [getD_at xs i _ hlt]
        have hb := bit_word xs[i] j
        generalize xs[i] = x at *
        clear h hc hmi
        rcases hx : x.toNat.testBit j with _ | _
        · rw [hx, if_neg (by decide)] at hb
          clear hx
          go_enter Tryd.func13, Tryd.ntmps13
          go_wp2_with fail
          go_ret
          exact ⟨rfl, rfl⟩
        · rw [hx, if_pos rfl] at hb
          clear hx
          go_enter Tryd.func13, Tryd.ntmps13
          go_wp2_with fail
          go_ret
          exact ⟨rfl, rfl⟩
      · have h1 : ¬ (i : Int) < (xs.length : Int) := by omega
        rw [show (xs.getD i 0#64).toNat.testBit j = false by rw [List.getD_eq_getElem?_getD, List.getElem?_eq_none (by omega)]; simp]
        clear h hc hmi hlt
        go_enter Tryd.func13, Tryd.ntmps13
        go_wp2_with fail
        go_ret
        exact ⟨rfl, rfl⟩
@[go_sem] theorem ui_div_pow (x : BitVec 64) (n : Nat) : ui x / (2 : Int) ^ n = ui (x >>> n) := by
  unfold ui
  rw [BitVec.toNat_ushiftRight, Nat.shiftRight_eq_div_pow, show ((2 : Int) ^ n) = ((2 ^ n : Nat) : Int) by simp, ← Int.natCast_ediv]
theorem shl_mid (ah al : BitVec 64) (m : Int) (h1 : 0 < m) (h3 : m < 64) (w : World) :
    Calls Tryd.prog 35 #[.agg #[.int .u64 (ui ah), .int .u64 (ui al)], .int .i64 m] w fun e w' => e = .returned (.agg #[.int .u64 (ui (ah <<< m.toNat ||| al >>> (64 - m).toNat)), .int .u64 (ui (al <<< m.toNat))]) ∧ Below w.heap.size w w' := by
  have h4 : 0 ≤ 64 - m := by omega
  have h5 : 0 ≤ m := by omega
  go_enter Tryd.func35, Tryd.ntmps35
  go_wp2_with fail
  go_region
  go_wp2_with fail
  exact bodyPost_ret (v := (.agg #[.int .u64 (ui (ah <<< m.toNat ||| al >>> (64 - m).toNat)), .int .u64 (ui (al <<< m.toNat))])) (by simp [results, Tryd.results35, go_sem]) rfl ⟨rfl, (((Below.refl _ _).alloc (Nat.le_refl _) _).alloc (by simp) _).drew⟩
theorem shl_word (a : BitVec 64) (k : Nat) (hk : k < 64) (w : World) :
    Calls Tryd.prog 35 #[.agg #[.int .u64 0, .int .u64 (ui a)], .int .i64 (k : Int)] w fun e w' => e = .returned (.agg #[.int .u64 (ui (hiW (2 ^ k * a.toNat))), .int .u64 (ui (loW (2 ^ k * a.toNat)))]) ∧ Below w.heap.size w w' := by
  by_cases h0 : k = 0
  · subst h0
    have e1 : hiW (2 ^ 0 * a.toNat) = 0#64 := by
      unfold hiW; rw [Nat.pow_zero, Nat.one_mul, Nat.div_eq_of_lt a.isLt]
    have e2 : loW (2 ^ 0 * a.toNat) = a := by
      unfold loW; rw [Nat.pow_zero, Nat.one_mul, BitVec.ofNat_toNat]; simp
    rw [e1, e2]
    clear e1 e2
    go_enter Tryd.func35, Tryd.ntmps35
    go_wp2_with fail
    exact bodyPost_ret (v := (.agg #[.int .u64 0, .int .u64 (ui a)])) (by simp [results, Tryd.results35, go_sem]) rfl ⟨rfl, ((Below.refl _ _).alloc (Nat.le_refl _) _).alloc (by simp) _⟩
  · obtain ⟨e1, e2⟩ := shl_hi a k (by omega) hk
    have h := shl_mid 0#64 a (k : Int) (by omega) (by omega) w
    rw [Int.toNat_natCast, show (64 - (k : Int)).toNat = 64 - k by omega, e1, e2] at h
    exact h
def clHi (a b : BitVec 64) : BitVec 64 := hiW (clm a.toNat b.toNat)
def clLo (a b : BitVec 64) : BitVec 64 := loW (clm a.toNat b.toNat)
theorem u128_cells {w : World} {g : Nat} {a c : Value} (h : Blk w g 39 #[a, c]) : w.cell? ⟨g, 0, none⟩ = some a ∧ w.cell? ⟨g, 1, none⟩ = some c := ⟨h.cell 0, h.cell 1⟩
theorem blk_at {w : World} {g : Nat} {t : TypeId} {cs : Array Value} (h : g = w.heap.size) : Blk (w.alloc (.cells cs t)) g t cs := by
  subst h; exact Blk.new _ _ _
theorem size_alloc (w : World) (x : Obj) : (w.alloc x).heap.size = w.heap.size + 1 := by simp
theorem Blk.belowS {w w' : World} {g : Nat} {t : TypeId} {cs : Array Value} (h : Blk w g t cs) (hb : Below w.heap.size w w') : Blk w' g t cs := h.below hb h.lt
/-- what stands in Clmul -/
structure CL (w0 w : World) (hi lo : BitVec 64) : Prop where
  bel : Below w0.heap.size w0 w
  rv : Blk w w0.heap.size 39 #[.int .u64 0, .int .u64 0]
  ov : Blk w (w0.heap.size + 1) 39 #[.int .u64 (ui hi), .int .u64 (ui lo)]
theorem CL.next {w0 w w1 : World} {hi lo : BitVec 64} (h : CL w0 w hi lo) (hb : Below w.heap.size w w1) : CL w0 w1 hi lo :=
  ⟨h.bel.trans (hb.mono h.bel.size), h.rv.belowS hb, h.ov.belowS hb⟩
theorem CL.set {w0 w : World} {hi lo : BitVec 64} (h : CL w0 w hi lo) (x y : BitVec 64) : CL w0 ((w.setCell ⟨w0.heap.size + 1, 0, none⟩ (.int .u64 (ui x))).setCell ⟨w0.heap.size + 1, 1, none⟩ (.int .u64 (ui y))) x y :=
  ⟨(h.bel.setCell (p := ⟨w0.heap.size + 1, 0, none⟩) (by simp) _).setCell (p := ⟨w0.heap.size + 1, 1, none⟩) (by simp) _, (h.rv.far (p := ⟨w0.heap.size + 1, 0, none⟩) (by simp) _).far (p := ⟨w0.heap.size + 1, 1, none⟩) (by simp) _, (h.ov.set_ 0 _).set_ 1 _⟩
theorem clmul_any (a b0 : BitVec 64) (w : World) (hT : Tab w) :
    Calls Tryd.prog 22 #[.int .u64 (ui a), .int .u64 (ui b0)] w fun e w' => e = .returned (.agg #[.int .u64 (ui (clHi a b0)), .int .u64 (ui (clLo a b0))]) ∧ Below w.heap.size w w' := by
  have HT := Lib.hid hT
  have hpos := hT.1
  clear hT
  go_enter Tryd.func22, Tryd.ntmps22
  go_wp2_with fail
  go_loopw [1] (fun i wr => ∃ b hi lo : BitVec 64, i = .int .u64 (ui b) ∧ RowKit.Hid (clm a.toNat b.toNat ^^^ cl128 hi lo = clm a.toNat b0.toNat) ∧ CL w wr hi lo) (fun i _ => (intOf i).toNat)
  case atStart =>
    exact ⟨b0, 0#64, 0#64, rfl, (show clm a.toNat b0.toNat ^^^ cl128 0#64 0#64 = clm a.toNat b0.toNat by rw [show cl128 0#64 0#64 = 0 from rfl, Nat.xor_zero]), (Below.refl w.heap.size w |>.alloc (Nat.le_refl _) _).alloc (by rw [size_alloc]; omega) _, (Blk.new w _ _).alloc _, blk_at (size_alloc _ _).symm⟩
  case round =>
    obtain ⟨b, hi, lo, rfl, HI, hcl⟩ := hrel
    have HC := Lib.hid hcl
    clear hcl
    by_cases h0 : b = 0
    · subst h0
      have hz : (ui 0#64 != 0) = false := rfl
      have hI : clm a.toNat (0#64).toNat ^^^ cl128 hi lo = clm a.toNat b0.toNat := HI
      rw [show (0#64).toNat = 0 from rfl, clm_r0, Nat.zero_xor] at hI
      obtain ⟨rfl, rfl⟩ := of_cl128 hI
      obtain ⟨d0, d1⟩ := u128_cells HC.out.ov
      obtain ⟨r0, r1⟩ := u128_cells HC.out.rv
      have f0 := HC.out.rv.frozen 0
      have f1 := HC.out.rv.frozen 1
      clear HI hI
      go_wp2_with fail
      refine bodyPost_ret (v := .agg #[.int .u64 (ui (hiW (clm a.toNat b0.toNat))), .int .u64 (ui (loW (clm a.toNat b0.toNat)))]) (by simp [results, Tryd.results22, go_sem, r0, r1]) rfl ?_
      exact ⟨rfl, (HC.out.bel.setCell (p := ⟨w.heap.size, 0, none⟩) (Nat.le_refl _) _).setCell (p := ⟨w.heap.size, 1, none⟩) (Nat.le_refl _) _⟩
    · have hz : (b != 0#64) = true := by simpa using h0
      obtain ⟨hs1, hs2⟩ := strike b h0
      have hk := (tz_spec b h0)
      have htz : tzB b < 64 := by obtain ⟨_, _, h⟩ := hk; exact h
      have HS := Lib.hid (And.intro hs1 hs2)
      clear hs1 hs2 hk h0
      go_wp2_with fail
      refine (tz_any b _ (HT.out.belowN HC.out.bel hpos)).mono ?_
      rintro e w' ⟨rfl, rfl⟩
      generalize tzB b = k at *
      go_wp2_with fail
      refine (shl_word a k htz _).mono ?_
      rintro e w2 ⟨rfl, bb⟩
      have hpl := pw_lt a k htz
      have hcp := cl128_of hpl
      generalize hP : hiW (2 ^ k * a.toNat) = p at *
      generalize hQ : loW (2 ^ k * a.toNat) = q at *
      have hN := (HC.out.next bb).next (below_new w2 (.cells #[.int .u64 (ui p), .int .u64 (ui q)] 39))
      have HN := Lib.hid hN
      have hP2 := Blk.new w2 39 #[.int .u64 (ui p), .int .u64 (ui q)]
      obtain ⟨p0, p1⟩ := u128_cells hP2
      obtain ⟨d0, d1⟩ := u128_cells hN.ov
      have f0 := hN.ov.frozen 0
      have f1 := hN.ov.frozen 1
      have hne : w2.heap.size ≠ w.heap.size + 1 := by have := (HC.out.next bb).ov.lt; omega
      have HCP := Lib.hid hcp
      clear bb hP hQ hP2 hN hpl hcp HC
      go_wp2_with fail
      go_roundw
      case rel =>
        refine ⟨b &&& (b - 1#64), hi ^^^ p, lo ^^^ q, rfl, ?_, HN.out.set _ _⟩
        show clm a.toNat (b &&& (b - 1#64)).toNat ^^^ cl128 (hi ^^^ p) (lo ^^^ q) = clm a.toNat b0.toNat
        have hI : clm a.toNat b.toNat ^^^ cl128 hi lo = clm a.toNat b0.toNat := HI
        rw [HS.out.2, clm_xor_r, clm_comm a.toNat (2 ^ k), clm_pow_l] at hI
        rw [cl128_xor, HCP.out, ← hI, Nat.xor_assoc, Nat.xor_comm (cl128 hi lo)]
      case measure =>
        have := HS.out.1
        show (ui (b &&& (b - 1#64))).toNat < (ui b).toNat
        rw [ui_toNat, ui_toNat]; omega
/-- some words of a row are added -/
def xorK (a b : List (BitVec 64)) (k : Nat) : List (BitVec 64) := (List.range a.length).map fun i => if i < k then a.getD i 0#64 ^^^ b.getD i 0#64 else a.getD i 0#64
theorem xorK_length (a b : List (BitVec 64)) (k : Nat) : (xorK a b k).length = a.length := by simp [xorK]
theorem xorK_get (a b : List (BitVec 64)) (k i : Nat) (hi : i < a.length) : (xorK a b k)[i]'(by rw [xorK_length]; exact hi) = if i < k then a.getD i 0#64 ^^^ b.getD i 0#64 else a.getD i 0#64 := by simp [xorK]
theorem xorK_zero (a b : List (BitVec 64)) : xorK a b 0 = a := by
  apply List.ext_getElem (xorK_length _ _ _)
  intro i h1 h2
  rw [xorK_get _ _ _ _ h2, if_neg (by omega), getD_at _ _ _ h2]
theorem xorK_succ (a b : List (BitVec 64)) (k : Nat) (hk : k < a.length) (hb : k < b.length) : xorK a b (k + 1) = (xorK a b k).set k (a[k] ^^^ b[k]) := by
  apply List.ext_getElem (by rw [List.length_set, xorK_length, xorK_length])
  intro i h1 h2
  rw [xorK_length] at h1
  rw [xorK_get _ _ _ _ h1, List.getElem_set]
  by_cases e : k = i
  · subst e
    rw [if_pos rfl, if_pos (by omega), getD_at _ _ _ hk, getD_at _ _ _ hb]
  · rw [if_neg e, xorK_get _ _ _ _ h1]
    by_cases h : i < k
    · rw [if_pos h, if_pos (by omega)]
    · rw [if_neg h, if_neg (by omega)]
theorem xorK_nv (a b : List (BitVec 64)) (h : b.length ≤ a.length) : nv (xorK a b b.length) = nv a ^^^ nv b := by
  apply nv_xor_bits
  intro i
  by_cases hi : i < a.length
  · rw [getD_at _ _ _ (by rw [xorK_length]; exact hi), xorK_get _ _ _ _ hi]
    by_cases hb : i < b.length
    · rw [if_pos hb]
    · rw [if_neg hb, List.getD_eq_getElem?_getD (l := b), List.getElem?_eq_none (by omega)]; simp
  · rw [List.getD_eq_getElem?_getD, List.getD_eq_getElem?_getD, List.getD_eq_getElem?_getD, List.getElem?_eq_none (by rw [xorK_length]; omega), List.getElem?_eq_none (by omega), List.getElem?_eq_none (by omega)]; simp
end Go.Proofs.YthiahpkodnfdcaaDoor
