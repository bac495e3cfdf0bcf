/- Plain laws of chapter 43's pairs: each pair is the one of its item and its rank. No program. No condition. -/
import Derived.Test.YtodflmngbkiemaaPlAlB
namespace Go.Proofs.Ytodflmngbkiemaa
open Go.RowKit
/-- of a table: how many pairs of a column with u below a number tell an item -/
def uN (bs : List (BitVec 64)) (ls : List Int) (j : Int) (c : Nat) (u : Nat) : Nat := (if (c : Int) = j then min u (bs.getD c 0#64).toNat else 0) + (if ls.getD c 0 = j then u - (bs.getD c 0#64).toNat else 0)
theorem uN_T {T : BitVec 64} {bs : List (BitVec 64)} {ls : List Int} (hok : OkT T bs ls) (j : Int) (c : Nat) (hc : c < bs.length) : uN bs ls j c T.toNat = wN T bs ls j c := by
  have hb := hok.at c hc
  unfold uN wN
  rw [Nat.min_eq_right hb]
theorem mnB_nat (u b : BitVec 64) : (mnB u b).toNat = min u.toNat b.toNat := by
  unfold mnB
  have e : ui b < ui u ↔ b.toNat < u.toNat := ui_lt_iff b u
  by_cases h : ui b < ui u
  · rw [if_pos h]; have := e.1 h; omega
  · rw [if_neg h]; have : ¬ b.toNat < u.toNat := fun x => h (e.2 x); omega
theorem pU_natU {T : BitVec 64} {bs : List (BitVec 64)} {ls : List Int} (hok : OkT T bs ls) (j : Int) (c : Nat) (hc : c < bs.length) (u : BitVec 64) (hu : u.toNat ≤ T.toNat) : (pU bs ls j c u).toNat = uN bs ls j c u.toNat ∧ uN bs ls j c u.toNat ≤ u.toNat + u.toNat := by
  have ht := hok.t1
  have hb := hok.at c hc
  unfold pU
  rw [partB_alt]
  unfold uN
  have hm := mnB_nat u (bs.getD c 0#64)
  generalize bs.getD c 0#64 = b at *
  have hs : (u - mnB u b).toNat = u.toNat - b.toNat := by
    have := u.isLt
    rw [BitVec.toNat_sub, hm]
    by_cases h : u.toNat ≤ b.toNat
    · rw [Nat.min_eq_left h]; omega
    · rw [Nat.min_eq_right (by omega)]; omega
  by_cases h1 : (c : Int) = j
  · by_cases h2 : ls.getD c 0 = j
    · simp only [if_pos h1, if_pos h2]
      rw [BitVec.toNat_add, hs, hm]; omega
    · simp only [if_pos h1, if_neg h2]
      rw [BitVec.add_zero, hm]; omega
  · by_cases h2 : ls.getD c 0 = j
    · simp only [if_neg h1, if_pos h2]
      rw [BitVec.zero_add, hs]; omega
    · simp only [if_neg h1, if_neg h2]
      exact ⟨rfl, by omega⟩
theorem aS_le {bs : List (BitVec 64)} {ls : List Int} {j : Int} {T : BitVec 64} {c : Nat} {u : BitVec 64} (k : Nat) (hk : k ≤ c) : aS bs ls j T c u k = wS bs ls j T k := by
  induction k with
  | zero => rfl
  | succ k ih =>
    rw [aS, if_neg (by omega), ih (by omega), if_neg (by omega : ¬ k = c), wS]
theorem aS_gt {bs : List (BitVec 64)} {ls : List Int} {j : Int} {T : BitVec 64} {c : Nat} {u : BitVec 64} (k : Nat) (hk : c < k) : aS bs ls j T c u k = pU bs ls j c u + wS bs ls j T c := by
  induction k with
  | zero => omega
  | succ k ih =>
    rw [aS]
    by_cases h : c < k
    · rw [if_pos h, ih h]
    · have e : k = c := by omega
      subst e
      rw [if_neg h, if_pos rfl, aS_le _ (Nat.le_refl _), BitVec.add_comm]
theorem sumN_mono (f : Nat → Nat) {a b : Nat} (h : a ≤ b) : sumN a f ≤ sumN b f := by
  induction b with
  | zero => have : a = 0 := by omega
            subst this; exact Nat.le_refl _
  | succ b ih =>
    by_cases e : a = b + 1
    · subst e; exact Nat.le_refl _
    · have := ih (by omega)
      rw [sumN]; omega
/-- the place of a number among parts -/
theorem sumN_place (f : Nat → Nat) (n r : Nat) (h : r < sumN n f) : ∃ c, c < n ∧ sumN c f ≤ r ∧ r < sumN c f + f c := by
  induction n with
  | zero => rw [sumN] at h; omega
  | succ n ih =>
    by_cases e : r < sumN n f
    · obtain ⟨c, h1, h2, h3⟩ := ih e
      exact ⟨c, by omega, h2, h3⟩
    · exact ⟨n, by omega, by omega, by rw [sumN] at h; exact h⟩
/-- what Pair needs of a number whose place is known -/
theorem pair_need {T : BitVec 64} {bs : List (BitVec 64)} {ls : List Int} (hok : OkT T bs ls) (j : Int) (r : BitVec 64) (c : Nat) (hc : c < bs.length) (h1 : sumN c (wN T bs ls j) ≤ r.toNat) (h2 : r.toNat < sumN c (wN T bs ls j) + wN T bs ls j c) :
    ui r < ui (wS bs ls j T bs.length) ∧ (∀ k, k < c → ui (pU bs ls j k T) ≤ ui (r - wS bs ls j T k)) ∧ ui (r - wS bs ls j T c) < ui (pU bs ls j c T) ∧ (r - wS bs ls j T c).toNat = r.toNat - sumN c (wN T bs ls j) := by
  have hn := hok.n2
  have sub : ∀ k, k ≤ c → (r - wS bs ls j T k).toNat = r.toNat - sumN k (wN T bs ls j) ∧ sumN k (wN T bs ls j) ≤ r.toNat := by
    intro k hk
    obtain ⟨e1, e2⟩ := wS_nat hok j k (by omega)
    have h3 := sumN_mono (wN T bs ls j) hk
    have hr := r.isLt
    rw [BitVec.toNat_sub, e1]; omega
  refine ⟨?_, fun k hk => ?_, ?_, (sub c (Nat.le_refl _)).1⟩
  · rw [ui_lt_iff, (wS_nat hok j bs.length (Nat.le_refl _)).1]
    have := sumN_mono (wN T bs ls j) (show c + 1 ≤ bs.length from hc)
    rw [sumN] at this; omega
  · obtain ⟨e1, e2⟩ := sub k (by omega)
    have h3 := sumN_mono (wN T bs ls j) (show k + 1 ≤ c from hk)
    rw [sumN] at h3
    have e3 := (pU_nat hok j k (by omega)).1
    have e4 : ¬ (r - wS bs ls j T k).toNat < (pU bs ls j k T).toNat := by omega
    have := mt (ui_lt_iff (r - wS bs ls j T k) (pU bs ls j k T)).1 e4
    omega
  · rw [ui_lt_iff, (sub c (Nat.le_refl _)).1, (pU_nat hok j c hc).1]; omega
theorem tell_range {T : BitVec 64} {bs : List (BitVec 64)} {ls : List Int} (hok : OkT T bs ls) (c : Nat) (hc : c < bs.length) (u : BitVec 64) : 0 ≤ tellT bs ls c u ∧ tellT bs ls c u < (bs.length : Int) := by
  unfold tellT
  split
  · omega
  · rw [getD_at ls c _ (by rw [hok.na]; exact hc)]
    exact hok.ha c (by rw [hok.na]; exact hc)
/-- a pair's rank leads to the pair -/
theorem rank_pair {T : BitVec 64} {bs : List (BitVec 64)} {ls : List Int} (hok : OkT T bs ls) (c : Nat) (hc : c < bs.length) (u : BitVec 64) (hu : ui u < ui T) :
    let j := tellT bs ls c u
    let r := pU bs ls j c u + wS bs ls j T c
    sumN c (wN T bs ls j) ≤ r.toNat ∧ r.toNat < sumN c (wN T bs ls j) + wN T bs ls j c ∧ withB bs c j (r - wS bs ls j T c) = u := by
  intro j r
  have hut : u.toNat < T.toNat := (ui_lt_iff u T).1 hu
  have ht := hok.t1
  have hn := hok.n2
  have hb := hok.at c hc
  obtain ⟨p1, p2⟩ := pU_natU hok j c hc u (by omega)
  obtain ⟨w1, w2⟩ := wS_nat hok j c (by omega)
  have hr : r.toNat = uN bs ls j c u.toNat + sumN c (wN T bs ls j) := by
    show (pU bs ls j c u + wS bs ls j T c).toNat = _
    rw [BitVec.toNat_add, p1, w1]; omega
  have hsub : r - wS bs ls j T c = pU bs ls j c u := by
    show pU bs ls j c u + wS bs ls j T c - wS bs ls j T c = _
    rw [BitVec.add_sub_cancel]
  have hj : j = tellT bs ls c u := rfl
  rw [hr, hsub]
  clear_value r j
  unfold tellT at hj
  have key : uN bs ls j c u.toNat < wN T bs ls j c ∧ withB bs c j (pU bs ls j c u) = u := by
    have e := ui_lt_iff u (bs.getD c 0#64)
    unfold uN at p1 p2 ⊢
    unfold wN withB
    generalize bs.getD c 0#64 = b at *
    generalize ls.getD c 0 = a at *
    by_cases hx : ui u < ui b
    · rw [if_pos hx] at hj
      subst hj
      simp only [if_true] at p1 p2 ⊢
      have hx' := e.1 hx
      have e1 : min u.toNat b.toNat = u.toNat := Nat.min_eq_left (by omega)
      have e2 : u.toNat - b.toNat = 0 := by omega
      rw [e1, e2, ite_self] at p1 p2 ⊢
      refine ⟨by omega, BitVec.eq_of_toNat_eq (by rw [p1, Nat.add_zero])⟩
    · rw [if_neg hx] at hj
      subst hj
      have hx' : ¬ u.toNat < b.toNat := fun h => hx (e.2 h)
      simp only [if_true] at p1 p2 ⊢
      by_cases hca : (c : Int) = j
      · simp only [if_pos hca] at p1 p2 ⊢
        refine ⟨by omega, BitVec.eq_of_toNat_eq (by rw [p1]; omega)⟩
      · simp only [if_neg hca] at p1 p2 ⊢
        refine ⟨by omega, BitVec.eq_of_toNat_eq (by rw [BitVec.toNat_add, p1]; omega)⟩
  exact ⟨by omega, by omega, key.2⟩
/-- a number below an item's weight leads to a pair that has it -/
theorem pair_rank {T : BitVec 64} {bs : List (BitVec 64)} {ls : List Int} (hok : OkT T bs ls) (j : Int) (r : BitVec 64) (c : Nat) (hc : c < bs.length) (h1 : sumN c (wN T bs ls j) ≤ r.toNat) (h2 : r.toNat < sumN c (wN T bs ls j) + wN T bs ls j c) :
    let y := withB bs c j (r - wS bs ls j T c)
    ui y < ui T ∧ tellT bs ls c y = j ∧ pU bs ls j c y + wS bs ls j T c = r := by
  intro y
  obtain ⟨_, _, _, n4⟩ := pair_need hok j r c hc h1 h2
  have ht := hok.t1
  have hb := hok.at c hc
  have hn := hok.n2
  obtain ⟨w1, w2⟩ := wS_nat hok j c (by omega)
  have hy : y = withB bs c j (r - wS bs ls j T c) := rfl
  clear_value y
  have key : y.toNat < T.toNat ∧ tellT bs ls c y = j ∧ uN bs ls j c y.toNat = r.toNat - sumN c (wN T bs ls j) := by
    have h3 : r.toNat - sumN c (wN T bs ls j) < wN T bs ls j c := by omega
    rw [← n4] at h3 ⊢
    generalize r - wS bs ls j T c = q at *
    have hq := q.isLt
    unfold wN at h3
    unfold withB at hy
    unfold uN tellT
    have e := ui_lt_iff y (bs.getD c 0#64)
    generalize bs.getD c 0#64 = b at *
    generalize ls.getD c 0 = a at *
    by_cases hcj : (c : Int) = j
    · simp only [if_pos hcj] at h3 hy ⊢
      subst hy
      by_cases hyb : ui y < ui b
      · have := e.1 hyb
        rw [if_pos hyb]
        refine ⟨by omega, hcj, ?_⟩
        have : y.toNat - b.toNat = 0 := by omega
        rw [this, ite_self]; omega
      · have : ¬ y.toNat < b.toNat := fun h => hyb (e.2 h)
        rw [if_neg hyb]
        by_cases ha : a = j
        · simp only [if_pos ha] at h3 ⊢
          exact ⟨by omega, ha, by omega⟩
        · rw [if_neg ha] at h3; omega
    · simp only [if_neg hcj] at h3 hy ⊢
      by_cases ha : a = j
      · simp only [if_pos ha] at h3 ⊢
        have hv : y.toNat = b.toNat + q.toNat := by
          rw [hy, BitVec.toNat_add]; omega
        have hyb : ¬ ui y < ui b := fun h => by have := e.1 h; omega
        rw [if_neg hyb]
        exact ⟨by omega, ha, by omega⟩
      · rw [if_neg ha] at h3; omega
  obtain ⟨k1, k2, k3⟩ := key
  refine ⟨(ui_lt_iff y T).2 k1, k2, BitVec.eq_of_toNat_eq ?_⟩
  rw [BitVec.toNat_add, (pU_natU hok j c hc y (by omega)).1, k3, w1]
  have := r.isLt
  omega
end Go.Proofs.Ytodflmngbkiemaa
