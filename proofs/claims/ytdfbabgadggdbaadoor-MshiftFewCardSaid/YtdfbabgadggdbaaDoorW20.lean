/- The walks of chapter 20's functions (multiplication and shift), the program's and the reference's. No condition. -/
import Derived.Test.YtdfbabgadggdbaaDoorW1
import Derived.Test.YtdfbabgadggdbaaDoorPl20
import Derived.Test.YtdfbabgadggdbaaDoorMem
import Derived.LoopTactic
import Derived.Deep.QuietTactic
import Derived.BigQuiet
namespace Go.Proofs.YtdfbabgadggdbaaDoor
open Go.RowKit
/-- the error's number -/
def errB (a : BitVec 64) (bits : Int) : Int := if bits < 1 ∨ 64 < bits then 1 else if (a % 2#64 == 0#64) = true then 13 else 0
def rightB (bits : Int) : Bool := decide (1 ≤ bits) && decide (bits ≤ 64)
theorem errB_ok {a : BitVec 64} {bits : Int} (h : errB a bits = 0) : 1 ≤ bits ∧ bits ≤ 64 ∧ (a % 2#64 == 0#64) = false := by
  unfold errB at h
  split at h
  · cases h
  · split at h
    · cases h
    · rename_i h1 h2
      exact ⟨by omega, by omega, by simpa using h2⟩
theorem errB_mk {a : BitVec 64} {bits : Int} (h1 : 1 ≤ bits) (h2 : bits ≤ 64) (h : (a % 2#64 == 0#64) = false) : errB a bits = 0 := by
  unfold errB; rw [if_neg (by omega), if_neg (by rw [h]; simp)]
theorem even_nat (a : BitVec 64) : (a % 2#64 == 0#64) = decide (a.toNat % 2 = 0) := by
  rw [Bool.eq_iff_iff, beq_iff_eq, decide_eq_true_eq]
  constructor
  · intro h; have := congrArg BitVec.toNat h; simpa [BitVec.toNat_umod] using this
  · intro h; apply BitVec.eq_of_toNat_eq; simpa [BitVec.toNat_umod] using h
theorem ret_t2 {a b c d : Value} (h : a = c) (h2 : b = d) : Ending.returned (.tuple #[a, b]) = .returned (.tuple #[c, d]) := by rw [h, h2]
theorem v_u64 {a b : BitVec 64} (h : a = b) : Value.int .u64 (ui a) = .int .u64 (ui b) := by rw [h]
theorem v_i64 {a b : Int} (h : a = b) : Value.int .i64 a = .int .i64 b := by rw [h]
theorem v_bool {a b : Bool} (h : a = b) : Value.bool a = .bool b := by rw [h]
theorem ret_b {a b : Bool} (h : a = b) : Ending.returned (.bool a) = .returned (.bool b) := by rw [h]
theorem right_any (bits : Int) (w : World) :
    Calls Tryd.prog 24 #[.int .i64 bits] w fun e w' => e = .returned (.bool (rightB bits)) ∧ w = w' := by
  by_cases h1 : bits < 1
  · go_enter Tryd.func24, Tryd.ntmps24
    go_wp2_with fail
    go_ret
    exact ⟨ret_b (by unfold rightB; rw [decide_eq_false (by omega : ¬ 1 ≤ bits)]; rfl), rfl⟩
  · have h1' : 1 ≤ bits := by omega
    by_cases h2 : bits ≤ 64
    · go_enter Tryd.func24, Tryd.ntmps24
      go_wp2_with fail
      go_ret
      exact ⟨ret_b (by unfold rightB; rw [decide_eq_true h1', decide_eq_true h2]; rfl), rfl⟩
    · have h2' : 64 < bits := by omega
      go_enter Tryd.func24, Tryd.ntmps24
      go_wp2_with fail
      go_ret
      exact ⟨ret_b (a := false) (by unfold rightB; rw [decide_eq_true h1', decide_eq_false (by omega : ¬ bits ≤ 64)]; rfl), rfl⟩
theorem check_any (a : BitVec 64) (bits : Int) (w : World) :
    Calls Tryd.prog 13 #[.int .u64 (ui a), .int .i64 bits] w fun e w' => e = .returned (.int .i64 (errB a bits)) ∧ w = w' := by
  by_cases h1 : rightB bits = true
  · have hb : ¬ (bits < 1 ∨ 64 < bits) := by simp [rightB] at h1; omega
    by_cases h3 : (a % 2#64 == 0#64) = true
    · go_enter Tryd.func13, Tryd.ntmps13
      go_wp2_with fail
      refine (right_any _ _).mono ?_
      rintro e w' ⟨rfl, rfl⟩
      go_wp2_with fail
      go_ret
      exact ⟨ret_i64 (by unfold errB; rw [if_neg hb, if_pos h3]), rfl⟩
    · have h3' : (a % 2#64 == 0#64) = false := by simpa using h3
      go_enter Tryd.func13, Tryd.ntmps13
      go_wp2_with fail
      refine (right_any _ _).mono ?_
      rintro e w' ⟨rfl, rfl⟩
      go_wp2_with fail
      go_ret
      exact ⟨ret_i64 (by unfold errB; rw [if_neg hb, if_neg h3]), rfl⟩
  · have h1' : rightB bits = false := by simpa using h1
    have hb : bits < 1 ∨ 64 < bits := by simp [rightB] at h1; omega
    go_enter Tryd.func13, Tryd.ntmps13
    go_wp2_with fail
    refine (right_any _ _).mono ?_
    rintro e w' ⟨rfl, rfl⟩
    go_wp2_with fail
    go_ret
    exact ⟨ret_i64 (by unfold errB; rw [if_pos hb]), rfl⟩
theorem refcheck_any (a : BitVec 64) (bits : Int) (w : World) :
    Calls Tryd.prog 12 #[.int .u64 (ui a), .int .i64 bits] w fun e w' => e = .returned (.int .i64 (errB a bits)) ∧ w = w' := by
  by_cases h1 : bits < 1
  · go_enter Tryd.func12, Tryd.ntmps12
    go_wp2_with fail
    go_ret
    exact ⟨ret_i64 (by unfold errB; rw [if_pos (Or.inl h1)]), rfl⟩
  · have h1' : 1 ≤ bits := by omega
    by_cases h2 : 64 < bits
    · go_enter Tryd.func12, Tryd.ntmps12
      go_wp2_with fail
      go_ret
      exact ⟨ret_i64 (by unfold errB; rw [if_pos (Or.inr h2)]), rfl⟩
    · have h2' : bits ≤ 64 := by omega
      by_cases h3 : (a % 2#64 == 0#64) = true
      · go_enter Tryd.func12, Tryd.ntmps12
        go_wp2_with fail
        go_ret
        exact ⟨ret_i64 (by unfold errB; rw [if_neg (by omega), if_pos h3]), rfl⟩
      · have h3' : (a % 2#64 == 0#64) = false := by simpa using h3
        go_enter Tryd.func12, Tryd.ntmps12
        go_wp2_with fail
        go_ret
        exact ⟨ret_i64 (by unfold errB; rw [if_neg (by omega), if_neg h3]), rfl⟩
/-- what a seed brings a key to -/
def topB (x : BitVec 64) (bits : Int) : BitVec 64 := x >>> (64 - bits.toNat)
def evalB (a : BitVec 64) (bits : Int) (x : BitVec 64) : BitVec 64 := if errB a bits = 0 then topB (a * x) bits else 0
theorem eval_any (a : BitVec 64) (bits : Int) (x : BitVec 64) (w : World) :
    Calls Tryd.prog 10 #[.int .u64 (ui a), .int .i64 bits, .int .u64 (ui x)] w fun e w' => e = .returned (.tuple #[.int .u64 (ui (evalB a bits x)), .int .i64 (errB a bits)]) ∧ w = w' := by
  by_cases h : errB a bits = 0
  · have hne : (errB a bits != 0) = false := by rw [h]; rfl
    obtain ⟨b1, b2, _⟩ := errB_ok h
    have hv : (a * x) >>> (64 - bits).toNat = evalB a bits x := by
      unfold evalB topB; rw [if_pos h, show (64 - bits).toNat = 64 - bits.toNat by omega]
    have HV := Lib.hid hv
    have H := Lib.hid h
    clear hv h
    have hs : 0 ≤ 64 - bits := by omega
    go_enter Tryd.func10, Tryd.ntmps10
    go_wp2_with fail
    refine (check_any _ _ _).mono ?_
    rintro e w' ⟨rfl, rfl⟩
    go_wp2_with fail
    go_ret2
    exact ⟨ret_t2 (v_u64 HV.out) (v_i64 H.out.symm), rfl⟩
  · have hne : (errB a bits != 0) = true := by simpa using h
    have hv : evalB a bits x = 0#64 := by unfold evalB; rw [if_neg h]; rfl
    have HV := Lib.hid hv
    clear hv h
    go_enter Tryd.func10, Tryd.ntmps10
    go_wp2_with fail
    refine (check_any _ _ _).mono ?_
    rintro e w' ⟨rfl, rfl⟩
    go_wp2_with fail
    go_ret2
    exact ⟨ret_t2 (v_u64 HV.out.symm) rfl, rfl⟩
/-- whether two keys meet, and what is wrong -/
def meetE (a : BitVec 64) (bits : Int) (x y : BitVec 64) : Int := if errB a bits = 0 then (if x = y then 15 else 0) else errB a bits
def meetB (a : BitVec 64) (bits : Int) (x y : BitVec 64) : Bool := decide (meetE a bits x y = 0) && (evalB a bits x == evalB a bits y)
theorem meets_any (a : BitVec 64) (bits : Int) (x y : BitVec 64) (w : World) :
    Calls Tryd.prog 11 #[.int .u64 (ui a), .int .i64 bits, .int .u64 (ui x), .int .u64 (ui y)] w fun e w' => e = .returned (.tuple #[.bool (meetB a bits x y), .int .i64 (meetE a bits x y)]) ∧ w = w' := by
  by_cases h : errB a bits = 0
  · have hne : (errB a bits != 0) = false := by rw [h]; rfl
    by_cases hx : (x == y) = true
    · have hm : meetE a bits x y = 15 ∧ meetB a bits x y = false := by
        have : meetE a bits x y = 15 := by unfold meetE; rw [if_pos h, if_pos (by simpa using hx)]
        exact ⟨this, by unfold meetB; rw [this]; rfl⟩
      have HM := Lib.hid hm
      clear hm h
      go_enter Tryd.func11, Tryd.ntmps11
      go_wp2_with fail
      refine (eval_any _ _ _ _).mono ?_
      rintro e w' ⟨rfl, rfl⟩
      go_wp2_with fail
      go_ret2
      exact ⟨ret_t2 (v_bool HM.out.2.symm) (v_i64 HM.out.1.symm), rfl⟩
    · have hx' : (x == y) = false := by simpa using hx
      have hm : meetE a bits x y = 0 ∧ meetB a bits x y = (evalB a bits x == evalB a bits y) := by
        have : meetE a bits x y = 0 := by unfold meetE; rw [if_pos h, if_neg (by simpa using hx)]
        exact ⟨this, by unfold meetB; rw [this]; rfl⟩
      have HM := Lib.hid hm
      clear hm h hx
      go_enter Tryd.func11, Tryd.ntmps11
      go_wp2_with fail
      refine (eval_any _ _ _ _).mono ?_
      rintro e w' ⟨rfl, rfl⟩
      go_wp2_with fail
      refine (eval_any _ _ _ _).mono ?_
      rintro e w' ⟨rfl, rfl⟩
      go_wp2_with fail
      go_ret2
      exact ⟨ret_t2 (v_bool HM.out.2.symm) (v_i64 HM.out.1.symm), rfl⟩
  · have hne : (errB a bits != 0) = true := by simpa using h
    have hm : meetE a bits x y = errB a bits ∧ meetB a bits x y = false := by
      have : meetE a bits x y = errB a bits := by unfold meetE; rw [if_neg h]
      exact ⟨this, by unfold meetB; rw [this, decide_eq_false h]; rfl⟩
    have HM := Lib.hid hm
    clear hm h
    go_enter Tryd.func11, Tryd.ntmps11
    go_wp2_with fail
    refine (eval_any _ _ _ _).mono ?_
    rintro e w' ⟨rfl, rfl⟩
    go_wp2_with fail
    go_ret2
    exact ⟨ret_t2 (v_bool HM.out.2.symm) (v_i64 HM.out.1.symm), rfl⟩
/-- the table of trailing zeros, in its variable -/
def Tab (w : World) : Prop := 0 < w.heap.size ∧ ∀ j, j < 64 → w.cell? ⟨0, j, none⟩ = some (.int .u8 (Lib.deBruijn64tab.getD j 0))
theorem Tab.below {w w' : World} (h : Tab w) (b : Below w.heap.size w w') : Tab w' :=
  ⟨Nat.lt_of_lt_of_le h.1 b.size, fun j hj => by rw [b.cell (p := ⟨0, j, none⟩) h.1]; exact h.2 j hj⟩
theorem Tab.belowN {w w' : World} {N : Nat} (h : Tab w) (b : Below N w w') (hN : 0 < N) : Tab w' :=
  ⟨Nat.lt_of_lt_of_le h.1 b.size, fun j hj => by rw [b.cell (p := ⟨0, j, none⟩) hN]; exact h.2 j hj⟩
theorem Tab.alloc {w : World} (h : Tab w) (o : Obj) : Tab (w.alloc o) := h.below ((Below.refl _ _).alloc (Nat.le_refl _) _)
theorem tz_idx (z : BitVec 64) (h : z ≠ 0) : (ui (((z &&& -z) * 285870213051353865#64) >>> 58)).toNat < 64 ∧ Lib.deBruijn64tab.getD (ui (((z &&& -z) * 285870213051353865#64) >>> 58)).toNat 0 = tzB z := by
  have h0 : z.toNat ≠ 0 := fun e => h (BitVec.eq_of_toNat_eq e)
  obtain ⟨hlow, hk⟩ := Lib.lowest_bit 64 z.toNat h0 z.isLt
  obtain ⟨hi, htab⟩ := Lib.deBruijn64_at _ hk
  have e : (ui (((z &&& -z) * 285870213051353865#64) >>> 58)).toNat = 2 ^ Lib.ctz 64 z.toNat * 285870213051353865 % 18446744073709551616 / 288230376151711744 := by
    unfold ui
    rw [Int.toNat_natCast, BitVec.toNat_ushiftRight, Nat.shiftRight_eq_div_pow, BitVec.toNat_mul, BitVec.toNat_and, BitVec.toNat_neg]
    have e2 : (2 ^ 64 - z.toNat) % 2 ^ 64 = 2 ^ 64 - z.toNat := by
      have := z.isLt
      omega
    rw [e2, hlow]
    rfl
  rw [e]
  exact ⟨hi, htab⟩
@[go_sem] theorem ofInt_neg_ui (z : BitVec 64) : BitVec.ofInt 64 (-ui z) = -z := by rw [BitVec.ofInt_neg, ofInt_ui]
theorem tz_any (z : BitVec 64) (w : World) (hT : Tab w) :
    Calls Tryd.prog 28 #[.int .u64 (ui z)] w fun e w' => e = .returned (.int .i64 (tzB z)) ∧ w = w' := by
  by_cases h : z = 0
  · subst h
    have hz : (ui 0#64 == 0) = true := rfl
    go_enter Tryd.func28, Tryd.ntmps28
    go_wp2_with fail
    go_ret
    exact ⟨rfl, rfl⟩
  · obtain ⟨hi, ht⟩ := tz_idx z h
    have hc := hT.2 _ hi
    rw [ht] at hc
    have hz : (z == 0#64) = false := by simpa using h
    have hi2 : ui (((z &&& -z) * 285870213051353865#64) >>> 58) < 64 := by
      have := ui_nonneg (((z &&& -z) * 285870213051353865#64) >>> 58); omega
    clear ht
    have h64 := (tz_spec z h)
    have htz : tzB z < 64 := by obtain ⟨_, _, h⟩ := h64; exact h
    clear h64
    go_enter Tryd.func28, Tryd.ntmps28
    go_wp2_with fail
    go_ret
    exact ⟨rfl, rfl⟩
theorem left20_any (z : BitVec 64) (w : World) (hT : Tab w) :
    Calls Tryd.prog 27 #[.int .u64 (ui z)] w fun e w' => e = .returned (.tuple #[.int .u64 (ui (oddB z)), .int .i64 (tzB z)]) ∧ w = w' := by
  go_enter Tryd.func27, Tryd.ntmps27
  go_wp2_with fail
  refine (tz_any _ _ hT).mono ?_
  rintro e w' ⟨rfl, rfl⟩
  go_wp2_with fail
  go_ret2
  exact ⟨rfl, rfl⟩
def pairV (d : BitVec 64) (s r : Int) : Value := .agg #[.int .u64 (ui d), .int .i64 s, .int .i64 r]
theorem run_pair (d d2 : BitVec 64) (s s2 r r2 : Int) (w : World) : (Op.equalIn 10000 41 (.agg #[.int .u64 (ui d), .int .i64 s, .int .i64 r]) (.agg #[.int .u64 (ui d2), .int .i64 s2, .int .i64 r2])).run Tryd.prog w = .ok (ui d == ui d2 && s == s2 && r == r2) w := by
  have u3 := Tryd.underlying22
  have u4 := Tryd.underlying3
  have a3 := Tryd.isAgg22
  have z3 := Tryd.sizeOf22
  have a4 := Tryd.isAgg3
  have z4 := Tryd.sizeOf3
  rw [show (10000 : Nat) = 9999 + 1 from rfl, Op.equalIn]
  simp only [Sem.run_bind, run_underlying Tryd.underlying41, Result.andThen_ok]
  go_simp
  by_cases h1 : d = d2 <;> by_cases h2 : s = s2 <;> by_cases h3 : r = r2 <;> simp [h1, h2, h3]
theorem egpair : Tryd.prog.eqGuardType Tryd.prog.depth 41 = false := by kernel_rfl
attribute [go_sem] egpair
theorem of_yes (bits : Int) (x y : BitVec 64) (hs : someB bits (x - y) = true) (w : World) (hT : Tab w) :
    Calls Tryd.prog 20 #[.int .i64 bits, .int .u64 (ui x), .int .u64 (ui y)] w fun e w' => e = .returned (.tuple #[.agg #[.int .u64 (ui (oddB (x - y))), .int .i64 (tzB (x - y)), .int .i64 (roomB bits (x - y))], .bool true]) ∧ Below w.heap.size w w' := by
  have h1 := someB_sizes hs
  obtain ⟨b1, b2, z0, b3, b4, b5, _, ho⟩ := id h1
  have hz : (x == y) = false := by rw [beq_eq_false_iff_ne]; rintro rfl; exact z0 (BitVec.sub_self _)
  have hr : 64 - bits - (tzB (x - y) : Int) = (roomB bits (x - y) : Nat) := by omega
  have h3 : 1 ≤ 64 - bits - (tzB (x - y) : Int) := by omega
  have h4 : decide (64 - bits - (tzB (x - y) : Int) < 1) = false := by simp; omega
  have hR : rightB bits = true := by unfold rightB; rw [decide_eq_true b1, decide_eq_true (by omega : bits ≤ 64)]; rfl
  have hp : ∀ (r : Int) (w : World), (Op.equalIn 10000 41 (.agg #[.int .u64 (ui (oddB (x - y))), .int .i64 (tzB (x - y)), .int .i64 r]) (.agg #[.int .u64 0, .int .i64 0, .int .i64 0])).run Tryd.prog w = .ok false w := by
    intro r w
    have := run_pair (oddB (x - y)) 0#64 (tzB (x - y)) 0 r 0 w
    have h0 : (ui (oddB (x - y)) == ui 0#64) = false := by
      rw [beq_eq_false_iff_ne]
      intro e
      rw [ui_inj] at e
      rw [e] at ho; simp at ho
    rw [h0] at this
    exact this
  have HR := Lib.hid hr
  clear hr b4 ho h1 hs z0
  go_enter Tryd.func20, Tryd.ntmps20
  go_wp2_with fail
  refine (left20_any _ _ ((hT.alloc _).alloc _)).mono ?_
  rintro e w' ⟨rfl, rfl⟩
  go_wp2_with fail
  refine (right_any _ _).mono ?_
  rintro e w' ⟨rfl, rfl⟩
  go_wp2_with fail
  go_region
  go_wp2_with fail
  refine bodyPost_ret (v := .tuple #[.agg #[.int .u64 (ui (oddB (x - y))), .int .i64 (tzB (x - y)), .int .i64 (64 - bits - (tzB (x - y) : Int))], .bool true]) (by simp [results, Tryd.results20, go_sem]) rfl ⟨ret_t2 (by rw [HR.out]) rfl, ?_⟩
  exact (((Below.refl _ _).alloc (Nat.le_refl _) _).alloc (by simp) _).drew
theorem of_no (bits : Int) (x y : BitVec 64) (hs : someB bits (x - y) = false) (w : World) (hT : Tab w) :
    Calls Tryd.prog 20 #[.int .i64 bits, .int .u64 (ui x), .int .u64 (ui y)] w fun e w' => e = .returned (.tuple #[.agg #[.int .u64 0, .int .i64 0, .int .i64 0], .bool false]) ∧ Below w.heap.size w w' := by
  have hp : ∀ (w : World), (Op.equalIn 10000 41 (.agg #[.int .u64 0, .int .i64 0, .int .i64 0]) (.agg #[.int .u64 0, .int .i64 0, .int .i64 0])).run Tryd.prog w = .ok true w := fun w => run_pair 0#64 0#64 0 0 0 0 w
  by_cases hz : (x == y) = true
  · clear hs
    go_enter Tryd.func20, Tryd.ntmps20
    go_wp2_with fail
    refine (left20_any _ _ ((hT.alloc _).alloc _)).mono ?_
    rintro e w' ⟨rfl, rfl⟩
    go_wp2_with fail
    go_region
    go_wp2_with fail
    refine bodyPost_ret (v := .tuple #[.agg #[.int .u64 0, .int .i64 0, .int .i64 0], .bool false]) (by simp [results, Tryd.results20, go_sem]) rfl ⟨rfl, ?_⟩
    exact (((Below.refl _ _).alloc (Nat.le_refl _) _).alloc (by simp) _).drew
  · have hz' : (x == y) = false := by simpa using hz
    by_cases hr : rightB bits = true
    · have hr2 := hr
      simp only [rightB, Bool.and_eq_true, decide_eq_true_eq] at hr2
      obtain ⟨b1, b2⟩ := hr2
      have hx : x - y ≠ 0 := by intro e; apply hz; rw [beq_iff_eq]; have := congrArg (· + y) e; simpa [BitVec.sub_add_cancel] using this
      have htz := (oddB_spec _ hx).2.2
      have h3 : 64 - bits - (tzB (x - y) : Int) < 1 := by
        simp only [someB, decide_eq_false_iff_not] at hs
        have : ¬ ((tzB (x - y) : Int) < 64 - bits) := fun h => hs ⟨b1, b2, hx, h⟩
        omega
      clear hs hx hz
      go_enter Tryd.func20, Tryd.ntmps20
      go_wp2_with fail
      refine (left20_any _ _ ((hT.alloc _).alloc _)).mono ?_
      rintro e w' ⟨rfl, rfl⟩
      go_wp2_with fail
      refine (right_any _ _).mono ?_
      rintro e w' ⟨rfl, rfl⟩
      go_wp2_with fail
      go_region
      go_wp2_with fail
      refine bodyPost_ret (v := .tuple #[.agg #[.int .u64 0, .int .i64 0, .int .i64 0], .bool false]) (by simp [results, Tryd.results20, go_sem]) rfl ⟨rfl, ?_⟩
      exact (((Below.refl _ _).alloc (Nat.le_refl _) _).alloc (by simp) _).drew
    · have hr' : rightB bits = false := by simpa using hr
      clear hs hz hr
      go_enter Tryd.func20, Tryd.ntmps20
      go_wp2_with fail
      refine (left20_any _ _ ((hT.alloc _).alloc _)).mono ?_
      rintro e w' ⟨rfl, rfl⟩
      go_wp2_with fail
      refine (right_any _ _).mono ?_
      rintro e w' ⟨rfl, rfl⟩
      go_wp2_with fail
      go_region
      go_wp2_with fail
      refine bodyPost_ret (v := .tuple #[.agg #[.int .u64 0, .int .i64 0, .int .i64 0], .bool false]) (by simp [results, Tryd.results20, go_sem]) rfl ⟨rfl, ?_⟩
      exact (((Below.refl _ _).alloc (Nat.le_refl _) _).alloc (by simp) _).drew
end Go.Proofs.YtdfbabgadggdbaaDoor
