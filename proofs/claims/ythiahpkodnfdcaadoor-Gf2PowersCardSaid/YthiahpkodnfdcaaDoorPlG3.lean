/- Plain laws of chapter 6's division: a step over rows of words. No program. No condition. -/
import Derived.Test.YthiahpkodnfdcaaDoorPlG2
namespace Go.Proofs.YthiahpkodnfdcaaDoor
open Go.RowKit
theorem dloop_done {m k : Nat} {p : Nat × Nat} (h : sz p.2 < sz m) : dloop m k p = p := by
  cases k with
  | zero => rfl
  | succ k => unfold dloop; rw [if_neg (by omega)]
theorem dloop_fuel {m : Nat} (hm : m ≠ 0) (k : Nat) (p : Nat × Nat) (h : sz p.2 ≤ k) : dloop m k p = dloop m (sz p.2) p := by
  have h0 : sz m ≠ 0 := fun e => hm (sz_eq_zero.1 e)
  induction k using Nat.strongRecOn generalizing p with
  | ind k ih =>
    by_cases hc : sz m ≤ sz p.2
    · have hl := dstep_lt hm hc
      obtain ⟨k', rfl⟩ : ∃ k', k = k' + 1 := ⟨k - 1, by omega⟩
      obtain ⟨s', hs'⟩ : ∃ s', sz p.2 = s' + 1 := ⟨sz p.2 - 1, by omega⟩
      rw [hs', dloop, if_pos hc, dloop, if_pos hc, ih k' (by omega) _ (by omega)]
      by_cases e : s' < k' + 1
      · rw [ih s' e _ (by omega)]
      · omega
    · rw [dloop_done (by omega), dloop_done (by omega)]
theorem dloop_step {m : Nat} {p : Nat × Nat} (hm : m ≠ 0) (h : sz m ≤ sz p.2) : dloop m (sz p.2) p = dloop m (sz (dstep m p).2) (dstep m p) := by
  have h0 : sz m ≠ 0 := fun e => hm (sz_eq_zero.1 e)
  have hl := dstep_lt hm h
  obtain ⟨s', hs'⟩ : ∃ s', sz p.2 = s' + 1 := ⟨sz p.2 - 1, by omega⟩
  rw [hs', dloop, if_pos h, dloop_fuel hm s' _ (by omega)]
/-- what division keeps -/
structure DI (A M : Nat) (qs rs : List (BitVec 64)) : Prop where
  run : dloop M (sz (nv rs)) (nv qs, nv rs) = dloop M (sz A) (0, A)
  bit : ∀ i, i + sz M ≤ sz (nv rs) → (nv qs).testBit i = false
theorem DI.start {A M : Nat} {n : Nat} {rs : List (BitVec 64)} (h : nv rs = A) (hq : nv (List.replicate n 0#64) = 0) : DI A M (List.replicate n 0#64) rs :=
  ⟨by rw [h, hq], fun i _ => by rw [hq]; simp⟩
theorem DI.stop {A M : Nat} {qs rs : List (BitVec 64)} (h : DI A M qs rs) (hs : sz (nv rs) < sz M) : nv qs = dquo A M ∧ nv rs = drem A M := by
  have := h.run
  rw [dloop_done hs] at this
  unfold dquo drem
  rw [← this]
  exact ⟨rfl, rfl⟩
theorem or_xor (q : BitVec 64) (j : Nat) (h : q.toNat.testBit j = false) : q ||| 1#64 <<< j = q ^^^ 1#64 <<< j := by
  apply BitVec.eq_of_getLsbD_eq
  intro i hi
  rw [BitVec.getLsbD_or, BitVec.getLsbD_xor, BitVec.getLsbD_shiftLeft]
  by_cases e : i = j
  · subst e
    have : q.getLsbD i = false := h
    rw [this]; simp
  · by_cases h1 : i < j
    · simp [h1]
    · have : (1#64).getLsbD (i - j) = false := by
        rw [BitVec.getLsbD_one]; simp; omega
      simp [this]
theorem one_shl (j : Nat) (h : j < 64) : (1#64 <<< j).toNat = 2 ^ j := by
  rw [BitVec.toNat_shiftLeft, show (1#64).toNat = 1 from rfl, Nat.shiftLeft_eq, Nat.one_mul, Nat.mod_eq_of_lt (Nat.pow_lt_pow_right (by decide) h)]
/-- the quotient's new bit -/
theorem quo_set {qs : List (BitVec 64)} {e : Nat} (hi : e / 64 < qs.length) (hb : (nv qs).testBit e = false) : nv (qs.set (e / 64) (qs[e / 64] ||| 1#64 <<< (e % 64))) = nv qs ^^^ 2 ^ e := by
  rw [nv_bit, List.getD_eq_getElem?_getD, List.getElem?_eq_getElem hi, Option.getD_some] at hb
  rw [or_xor _ _ hb, nv_set _ _ hi, one_shl _ (by omega), ← Nat.pow_add]
  congr 2
  omega
theorem DI.next {A M e : Nat} {qs rs qs' rs' : List (BitVec 64)} (h : DI A M qs rs) (hm : M ≠ 0) (he : sz (nv rs) = sz M + e) (hq : nv qs' = nv qs ^^^ 2 ^ e) (hr : nv rs' = nv rs ^^^ 2 ^ e * M) : DI A M qs' rs' ∧ sz (nv rs') < sz (nv rs) := by
  have hle : sz M ≤ sz (nv rs) := by omega
  have hd : dstep M (nv qs, nv rs) = (nv qs', nv rs') := by
    unfold dstep
    simp only [hq, hr, show sz (nv rs) - sz M = e by omega]
  have hlt := dstep_lt (p := (nv qs, nv rs)) hm hle
  have hst := dloop_step (p := (nv qs, nv rs)) hm hle
  rw [hd] at hlt hst
  refine ⟨⟨hst.symm.trans h.run, fun i hi => ?_⟩, hlt⟩
  have hlt2 : sz (nv rs') < sz (nv rs) := hlt
  rw [hq, Nat.testBit_xor, h.bit i (by omega), Nat.testBit_two_pow, decide_eq_false (by omega)]
  rfl
/-- the parts of a word that is shifted -/
theorem shl_parts (x : BitVec 64) (j : Nat) (hj : j < 64) : cl128 (x >>> (64 - j)) (x <<< j) = 2 ^ j * x.toNat := by
  unfold cl128
  rw [BitVec.toNat_ushiftRight, BitVec.toNat_shiftLeft, Nat.shiftRight_eq_div_pow, Nat.shiftLeft_eq]
  have e : 2 ^ 64 = 2 ^ j * 2 ^ (64 - j) := by rw [← Nat.pow_add]; congr 1; omega
  have e2 : 2 ^ j * x.toNat / 2 ^ 64 = x.toNat / 2 ^ (64 - j) := by
    rw [e, Nat.mul_div_mul_left _ _ (Nat.two_pow_pos j)]
  rw [← e2, Nat.mul_comm x.toNat]
  exact Nat.div_add_mod _ _
/-- a word of the divisor is taken off -/
theorem rem_one {rs ms : List (BitVec 64)} {R e k : Nat} (hk : k < ms.length) (hj : k + e / 64 < rs.length) (h : nv rs = R ^^^ 2 ^ e * nv (ms.take k)) (hz : ms[k] >>> (64 - e % 64) = 0#64) :
    nv (rs.set (k + e / 64) (rs[k + e / 64] ^^^ ms[k] <<< (e % 64))) = R ^^^ 2 ^ e * nv (ms.take (k + 1)) := by
  have hp := shl_parts ms[k] (e % 64) (by omega)
  unfold cl128 at hp
  rw [hz, show (0#64).toNat = 0 from rfl, Nat.mul_zero, Nat.zero_add] at hp
  rw [nv_set _ _ hj, h, hp, nv_take_succ _ _ hk, pow_xor, Nat.xor_assoc]
  congr 2
  rw [← Nat.mul_assoc, ← Nat.mul_assoc, ← Nat.pow_add, ← Nat.pow_add]
  congr 2
  omega
theorem rem_two {rs ms : List (BitVec 64)} {R e k : Nat} (hk : k < ms.length) (hj : k + e / 64 + 1 < rs.length) (h : nv rs = R ^^^ 2 ^ e * nv (ms.take k)) :
    nv ((rs.set (k + e / 64) (rs[k + e / 64] ^^^ ms[k] <<< (e % 64))).set (k + e / 64 + 1) (rs[k + e / 64 + 1] ^^^ ms[k] >>> (64 - e % 64))) = R ^^^ 2 ^ e * nv (ms.take (k + 1)) := by
  have e1 : rs[k + e / 64 + 1] = (rs.set (k + e / 64) (rs[k + e / 64] ^^^ ms[k] <<< (e % 64)))[k + e / 64 + 1]'(by rw [List.length_set]; exact hj) := by
    rw [List.getElem_set_ne (by omega)]
  have hp := shl_parts ms[k] (e % 64) (by omega)
  unfold cl128 at hp
  rw [e1, nv_set _ _ (by rw [List.length_set]; exact hj), nv_set _ _ (by omega), h, nv_take_succ _ _ hk, pow_xor, Nat.xor_assoc, Nat.xor_assoc]
  congr 2
  rw [show 64 * (k + e / 64 + 1) = 64 * (k + e / 64) + 64 by omega, Nat.pow_add, Nat.mul_assoc, ← pow_xor, Nat.xor_comm (ms[k] <<< (e % 64)).toNat, ← add_xor _ _ _ (ms[k] <<< (e % 64)).isLt, hp, ← Nat.mul_assoc, ← Nat.mul_assoc, ← Nat.pow_add, ← Nat.pow_add]
  congr 2
  omega
theorem nv_ge (ms : List (BitVec 64)) (k : Nat) (hk : k < ms.length) : 2 ^ (64 * k) * ms[k].toNat ≤ nv ms := by
  induction ms generalizing k with
  | nil => simp at hk
  | cons x ms ih =>
    rcases k with _ | k
    · simp [nv]
    · have := ih k (by simpa using hk)
      rw [nv, List.getElem_cons_succ, show 64 * (k + 1) = 64 + 64 * k by omega, Nat.pow_add, Nat.mul_assoc]
      have := Nat.mul_le_mul_left (2 ^ 64) this
      omega
/-- the places stay in the row -/
theorem rem_place {rs ms : List (BitVec 64)} {e k : Nat} (hs : sz (nv rs) = sz (nv ms) + e) (hk : 64 * k < sz (nv ms)) : k + e / 64 < rs.length := by
  have h := (@sz_le (nv rs) (64 * rs.length)).2 (nv_lt rs)
  omega
theorem rem_place2 {n R : Nat} {ms : List (BitVec 64)} {e k : Nat} (hR : R < 2 ^ (64 * n)) (hs : sz R = sz (nv ms) + e) (hk : k < ms.length) (hz : ms[k] >>> (64 - e % 64) ≠ 0#64) : k + e / 64 + 1 < n := by
  have h := (@sz_le R (64 * n)).2 hR
  have h1 := nv_ge ms k hk
  have hx : 2 ^ (64 - e % 64) ≤ ms[k].toNat := by
    apply Classical.byContradiction
    intro hc
    apply hz
    apply BitVec.eq_of_toNat_eq
    rw [BitVec.toNat_ushiftRight, Nat.shiftRight_eq_div_pow, Nat.div_eq_of_lt (by omega)]
    rfl
  have h2 : 2 ^ (64 * k + (64 - e % 64)) ≤ nv ms := by
    rw [Nat.pow_add]
    exact Nat.le_trans (Nat.mul_le_mul_left _ hx) h1
  have h3 := lt_sz_iff.2 h2
  omega
theorem nv_words (ms : List (BitVec 64)) (h : nv ms ≠ 0) : (sz (nv ms) - 1) / 64 + 1 ≤ ms.length ∧ nv (ms.take ((sz (nv ms) - 1) / 64 + 1)) = nv ms := by
  have h0 : sz (nv ms) ≠ 0 := fun e => h (sz_eq_zero.1 e)
  have hl := (@sz_le (nv ms) (64 * ms.length)).2 (nv_lt ms)
  refine ⟨by omega, nv_take ms _ (fun i hi hx => ?_)⟩
  apply Classical.byContradiction
  intro hne
  have h1 := nv_ge ms i hx
  have h2 : 1 ≤ ms[i].toNat := by
    rcases Nat.eq_zero_or_pos ms[i].toNat with e | e
    · exact absurd (BitVec.eq_of_toNat_eq e) hne
    · exact e
  have h3 : 2 ^ (64 * i) ≤ nv ms := by
    have := Nat.mul_le_mul_left (2 ^ (64 * i)) h2
    omega
  have h4 := lt_sz_iff.2 h3
  omega
theorem quo_set' {qs : List (BitVec 64)} {e ei ej : Nat} (hei : e / 64 = ei) (hej : e % 64 = ej) (hi : ei < qs.length) (hb : (nv qs).testBit e = false) : nv (qs.set ei (qs[ei] ||| 1#64 <<< ej)) = nv qs ^^^ 2 ^ e := by
  subst hei hej; exact quo_set hi hb
theorem rem_one' {rs ms : List (BitVec 64)} {R e ei ej k : Nat} (hei : e / 64 = ei) (hej : e % 64 = ej) (hk : k < ms.length) (hj : k + ei < rs.length) (h : nv rs = R ^^^ 2 ^ e * nv (ms.take k)) (hz : ms[k] >>> (64 - ej) = 0#64) :
    nv (rs.set (k + ei) (rs[k + ei] ^^^ ms[k] <<< ej)) = R ^^^ 2 ^ e * nv (ms.take (k + 1)) := by
  subst hei hej; exact rem_one hk hj h hz
theorem rem_two' {rs ms : List (BitVec 64)} {R e ei ej k : Nat} (hei : e / 64 = ei) (hej : e % 64 = ej) (hk : k < ms.length) (hj : k + ei + 1 < rs.length) (h : nv rs = R ^^^ 2 ^ e * nv (ms.take k)) :
    nv ((rs.set (k + ei) (rs[k + ei] ^^^ ms[k] <<< ej)).set (k + ei + 1) (rs[k + ei + 1] ^^^ ms[k] >>> (64 - ej))) = R ^^^ 2 ^ e * nv (ms.take (k + 1)) := by
  subst hei hej; exact rem_two hk hj h
theorem rem_place' {R n : Nat} {ms : List (BitVec 64)} {e ei k : Nat} (hei : e / 64 = ei) (hR : R < 2 ^ (64 * n)) (hs : sz R = sz (nv ms) + e) (hk : 64 * k < sz (nv ms)) : k + ei < n := by
  have h := (@sz_le R (64 * n)).2 hR
  omega
theorem rem_place2' {n R : Nat} {ms : List (BitVec 64)} {e ei ej k : Nat} (hei : e / 64 = ei) (hej : e % 64 = ej) (hR : R < 2 ^ (64 * n)) (hs : sz R = sz (nv ms) + e) (hk : k < ms.length) (hz : ms[k] >>> (64 - ej) ≠ 0#64) : k + ei + 1 < n := by
  subst hei hej; exact rem_place2 hR hs hk hz
end Go.Proofs.YthiahpkodnfdcaaDoor
