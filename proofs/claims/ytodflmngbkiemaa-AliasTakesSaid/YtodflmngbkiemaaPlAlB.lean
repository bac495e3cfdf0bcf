/- Plain laws of chapter 43's building: the columns are filled one by one, and each item keeps its weight. No program. No condition. -/
import Derived.Test.YtodflmngbkiemaaW43e
namespace Go.Proofs.Ytodflmngbkiemaa
open Go.RowKit
/-- a sum -/
def sumN : Nat → (Nat → Nat) → Nat
  | 0, _ => 0
  | k + 1, f => sumN k f + f k
theorem sumN_congr {n : Nat} {f g : Nat → Nat} (h : ∀ i, i < n → f i = g i) : sumN n f = sumN n g := by
  induction n with
  | zero => rfl
  | succ n ih =>
    unfold sumN
    rw [ih (fun i hi => h i (by omega)), h n (by omega)]
theorem sumN_upd {n j : Nat} {f g : Nat → Nat} (hj : j < n) (h : ∀ i, i < n → i ≠ j → g i = f i) : sumN n g + f j = sumN n f + g j := by
  induction n with
  | zero => omega
  | succ n ih =>
    unfold sumN
    by_cases hn : j = n
    · subst hn
      rw [sumN_congr (f := g) (g := f) (fun i hi => h i (by omega) (by omega))]
      omega
    · have := ih (by omega) (fun i hi => h i (by omega))
      have := h n (by omega) (by omega)
      omega
theorem sumN_upd2 {n j k : Nat} {f g : Nat → Nat} (hj : j < n) (hk : k < n) (hne : j ≠ k) (h : ∀ i, i < n → i ≠ j → i ≠ k → g i = f i) : sumN n g + f j + f k = sumN n f + g j + g k := by
  have h1 := sumN_upd (n := n) (j := j) (f := f) (g := fun i => if i = j then g i else f i) hj (fun i _ hij => if_neg hij)
  have h2 := sumN_upd (n := n) (j := k) (f := fun i => if i = j then g i else f i) (g := g) hk (fun i hi hik => by
    by_cases hij : i = j
    · simp only [hij, if_true]
    · simp only [if_neg hij]
      exact h i hi hij hik)
  simp only [if_true] at h1
  simp only [if_neg (fun x => hne x.symm : ¬ k = j)] at h2
  omega
theorem sumN_le {n : Nat} {f g : Nat → Nat} (h : ∀ i, i < n → f i ≤ g i) : sumN n f ≤ sumN n g := by
  induction n with
  | zero => exact Nat.le_refl _
  | succ n ih =>
    unfold sumN
    have := ih (fun i hi => h i (by omega))
    have := h n (by omega)
    omega
theorem sumN_lt {n j : Nat} {f g : Nat → Nat} (hj : j < n) (h : ∀ i, i < n → f i ≤ g i) (hl : f j < g j) : sumN n f < sumN n g := by
  induction n with
  | zero => omega
  | succ n ih =>
    unfold sumN
    by_cases hn : j = n
    · subst hn
      have := sumN_le (n := j) (fun i hi => h i (by omega))
      omega
    · have := ih (by omega) (fun i hi => h i (by omega))
      have := h n (by omega)
      omega
theorem sumN_mul (c : Nat) (n : Nat) (f : Nat → Nat) : sumN n (fun i => c * f i) = c * sumN n f := by
  induction n with
  | zero => rfl
  | succ n ih => unfold sumN; rw [ih, Nat.mul_add]
theorem sumN_zero (n : Nat) : sumN n (fun _ => 0) = 0 := by
  induction n with
  | zero => rfl
  | succ n ih => unfold sumN; omega
theorem sumN_one (n : Nat) : sumN n (fun _ => 1) = n := by
  induction n with
  | zero => rfl
  | succ n ih => unfold sumN; rw [ih]
theorem sumN_single {n j : Nat} {f : Nat → Nat} (hj : j < n) (h : ∀ i, i < n → i ≠ j → f i = 0) : sumN n f = f j := by
  have := sumN_upd (n := n) (j := j) (f := fun _ => 0) (g := f) hj h
  rw [sumN_zero] at this
  omega
theorem sumN_bound {n : Nat} {f : Nat → Nat} {b : Nat} (h : ∀ i, i < n → f i ≤ b) : sumN n f ≤ b * n := by
  have h1 := sumN_le (n := n) (f := f) (g := fun _ => b * 1) (fun i hi => by have := h i hi; omega)
  rw [sumN_mul b n (fun _ => 1), sumN_one] at h1
  exact h1
theorem getD_set {α : Type} (xs : List α) (j i : Nat) (v d : α) (hj : j < xs.length) : (xs.set j v).getD i d = if i = j then v else xs.getD i d := by
  by_cases h : i = j
  · subst h
    rw [if_pos rfl]
    simp [List.getD, hj]
  · rw [if_neg h]
    have h2 : ¬ j = i := fun x => h x.symm
    simp [List.getD, h2]
theorem list_ext {α : Type} {xs ys : List α} (d : α) (hl : xs.length = ys.length) (h : ∀ i, i < xs.length → xs.getD i d = ys.getD i d) : xs = ys := by
  apply List.ext_getElem hl
  intro i h1 h2
  have := h i h1
  rwa [getD_at _ _ _ h1, getD_at _ _ _ h2] at this
/-- the building: what each item has left, which columns are done, their bounds, their other items -/
structure Sta where
  has : List (BitVec 64)
  done : List Bool
  bel : List (BitVec 64)
  ali : List Int
/-- the first item without a column of a kind -/
def fidx (p : BitVec 64 → Bool) (hs : List (BitVec 64)) (ds : List Bool) : Option Nat :=
  (List.range hs.length).find? fun i => !(ds.getD i true) && p (hs.getD i 0#64)
theorem fidx_none {p : BitVec 64 → Bool} {hs : List (BitVec 64)} {ds : List Bool} (h : fidx p hs ds = none) (i : Nat) (hi : i < hs.length) (hd : ds.getD i true = false) : p (hs.getD i 0#64) = false := by
  unfold fidx at h
  rw [List.find?_eq_none] at h
  have := h i (List.mem_range.2 hi)
  rw [hd] at this
  simpa using this
theorem fidx_some {p : BitVec 64 → Bool} {hs : List (BitVec 64)} {ds : List Bool} {j : Nat} (h : fidx p hs ds = some j) :
    j < hs.length ∧ ds.getD j true = false ∧ p (hs.getD j 0#64) = true ∧ ∀ i, i < j → ds.getD i true = false → p (hs.getD i 0#64) = false := by
  unfold fidx at h
  rw [List.find?_range_eq_some] at h
  obtain ⟨h1, h2, h3⟩ := h
  have h1' : ds.getD j true = false ∧ p (hs.getD j 0#64) = true := by simpa using h1
  refine ⟨List.mem_range.1 h2, h1'.1, h1'.2, fun i hi hd => ?_⟩
  have := h3 i hi
  rw [hd] at this
  simpa using this
/-- as the program says it: -1 where there is none -/
def posI : Option Nat → Int
  | none => -1
  | some j => (j : Int)
def ltP (T : BitVec 64) (x : BitVec 64) : Bool := decide (ui x < ui T)
def gtP (T : BitVec 64) (x : BitVec 64) : Bool := decide (ui T < ui x)
/-- one column -/
def nxt (T : BitVec 64) (s : Sta) (j g : Nat) : Sta :=
  ⟨s.has.set g (s.has.getD g 0#64 - (T - s.has.getD j 0#64)), s.done.set j true, s.bel.set j (s.has.getD j 0#64), s.ali.set j (g : Int)⟩
def stp (T : BitVec 64) (s : Sta) : Option Sta :=
  match fidx (ltP T) s.has s.done with
  | none => none
  | some j => match fidx (gtP T) s.has s.done with
    | none => none
    | some g => some (nxt T s j g)
def runA (T : BitVec 64) : Nat → Sta → Sta
  | 0, s => s
  | k + 1, s => match stp T s with
    | none => s
    | some s' => runA T k s'
/-- columns that are not done -/
def cntS (s : Sta) : Nat := sumN s.done.length fun i => if s.done.getD i true = true then 0 else 1
/-- what the building keeps -/
structure Inv (T : BitVec 64) (ws : List (BitVec 64)) (s : Sta) : Prop where
  lh : s.has.length = ws.length
  ld : s.done.length = ws.length
  lb : s.bel.length = ws.length
  la : s.ali.length = ws.length
  nd : ∀ i, i < ws.length → s.done.getD i true = false → s.bel.getD i 0#64 = T ∧ s.ali.getD i 0 = (i : Int)
  bt : ∀ i, i < ws.length → (s.bel.getD i 0#64).toNat ≤ T.toNat
  ar : ∀ i, i < ws.length → 0 ≤ s.ali.getD i 0 ∧ s.ali.getD i 0 < (ws.length : Int)
  sm : sumN ws.length (fun i => if s.done.getD i true = true then 0 else (s.has.getD i 0#64).toNat) = T.toNat * sumN ws.length (fun i => if s.done.getD i true = true then 0 else 1)
  wt : ∀ i, i < ws.length → sumN ws.length (fun c => (if c = i then (if s.done.getD c true = true then (s.bel.getD c 0#64).toNat else (s.has.getD c 0#64).toNat) else 0) + (if s.ali.getD c 0 = (i : Int) ∧ s.done.getD c true = true then T.toNat - (s.bel.getD c 0#64).toNat else 0)) = ws.length * (ws.getD i 0#64).toNat
theorem inv_gt {T : BitVec 64} {ws : List (BitVec 64)} {s : Sta} (hI : Inv T ws s) {j : Nat} (hj : fidx (ltP T) s.has s.done = some j) : ∃ g, fidx (gtP T) s.has s.done = some g := by
  rcases hg : fidx (gtP T) s.has s.done with _ | g
  · exfalso
    obtain ⟨j1, j2, j3, _⟩ := fidx_some hj
    rw [hI.lh] at j1
    have hlt : (s.has.getD j 0#64).toNat < T.toNat := by
      have : ui (s.has.getD j 0#64) < ui T := by simpa [ltP] using j3
      rwa [ui_lt_iff] at this
    have h := sumN_lt (n := ws.length) (j := j) (f := fun i => if s.done.getD i true = true then 0 else (s.has.getD i 0#64).toNat) (g := fun i => T.toNat * (if s.done.getD i true = true then 0 else 1)) j1 (fun i hi => by
      by_cases hd : s.done.getD i true = true
      · simp only [if_pos hd]; omega
      · have hd' : s.done.getD i true = false := by simpa using hd
        have := fidx_none hg i (by rw [hI.lh]; exact hi) hd'
        have h2 : ¬ ui T < ui (s.has.getD i 0#64) := by simpa [gtP] using this
        rw [ui_lt_iff] at h2
        simp only [if_neg hd]
        omega) (by simp only [j2]; simpa using hlt)
    rw [sumN_mul, hI.sm] at h
    omega
  · exact ⟨g, rfl⟩
theorem inv_step {T : BitVec 64} {ws : List (BitVec 64)} {s : Sta} (hI : Inv T ws s) {j g : Nat} (hj : fidx (ltP T) s.has s.done = some j) (hg : fidx (gtP T) s.has s.done = some g) :
    j < ws.length ∧ g < ws.length ∧ j ≠ g ∧ Inv T ws (nxt T s j g) ∧ cntS s = cntS (nxt T s j g) + 1 := by
  obtain ⟨j1, j2, j3, _⟩ := fidx_some hj
  obtain ⟨g1, g2, g3, _⟩ := fidx_some hg
  have hlt : (s.has.getD j 0#64).toNat < T.toNat := by
    have : ui (s.has.getD j 0#64) < ui T := by simpa [ltP] using j3
    rwa [ui_lt_iff] at this
  have hgt : T.toNat < (s.has.getD g 0#64).toNat := by
    have : ui T < ui (s.has.getD g 0#64) := by simpa [gtP] using g3
    rwa [ui_lt_iff] at this
  have hne : j ≠ g := by rintro rfl; omega
  have hv : (s.has.getD g 0#64 - (T - s.has.getD j 0#64)).toNat = (s.has.getD g 0#64).toNat - (T.toNat - (s.has.getD j 0#64).toNat) := by
    have hT := T.isLt
    have hG := (s.has.getD g 0#64).isLt
    simp only [BitVec.toNat_sub]
    omega
  have dn : ∀ i, (nxt T s j g).done.getD i true = if i = j then true else s.done.getD i true := fun i => getD_set _ _ _ _ _ (by rw [hI.ld, ← hI.lh]; exact j1)
  have hs : ∀ i, (nxt T s j g).has.getD i 0#64 = if i = g then s.has.getD g 0#64 - (T - s.has.getD j 0#64) else s.has.getD i 0#64 := fun i => getD_set _ _ _ _ _ g1
  have be : ∀ i, (nxt T s j g).bel.getD i 0#64 = if i = j then s.has.getD j 0#64 else s.bel.getD i 0#64 := fun i => getD_set _ _ _ _ _ (by rw [hI.lb, ← hI.lh]; exact j1)
  have al : ∀ i, (nxt T s j g).ali.getD i 0 = if i = j then (g : Int) else s.ali.getD i 0 := fun i => getD_set _ _ _ _ _ (by rw [hI.la, ← hI.lh]; exact j1)
  rw [hI.lh] at j1 g1
  have hg2 : (nxt T s j g).done.getD g true = false := by rw [dn, if_neg (fun x => hne x.symm)]; exact g2
  have hj2 : (nxt T s j g).done.getD j true = true := by rw [dn, if_pos rfl]
  have hcnt : sumN ws.length (fun i => if (nxt T s j g).done.getD i true = true then 0 else 1) + 1 = sumN ws.length (fun i => if s.done.getD i true = true then 0 else 1) := by
    have := sumN_upd (n := ws.length) (j := j) (f := fun i => if s.done.getD i true = true then 0 else 1) (g := fun i => if (nxt T s j g).done.getD i true = true then 0 else 1) j1 (fun i _ hij => by simp only [dn, if_neg hij])
    simp only [hj2, j2, if_true] at this
    simpa using this
  refine ⟨j1, g1, hne, ⟨?_, ?_, ?_, ?_, ?_, ?_, ?_, ?_, ?_⟩, ?_⟩
  · simp [nxt, hI.lh]
  · simp [nxt, hI.ld]
  · simp [nxt, hI.lb]
  · simp [nxt, hI.la]
  · intro i hi hd
    rw [dn] at hd
    by_cases hij : i = j
    · rw [if_pos hij] at hd; cases hd
    · rw [if_neg hij] at hd
      rw [be, al, if_neg hij, if_neg hij]
      exact hI.nd i hi hd
  · intro i hi
    rw [be]
    by_cases hij : i = j
    · rw [if_pos hij]; omega
    · rw [if_neg hij]; exact hI.bt i hi
  · intro i hi
    rw [al]
    by_cases hij : i = j
    · rw [if_pos hij]; omega
    · rw [if_neg hij]; exact hI.ar i hi
  · have h := sumN_upd2 (n := ws.length) (j := j) (k := g) (f := fun i => if s.done.getD i true = true then 0 else (s.has.getD i 0#64).toNat) (g := fun i => if (nxt T s j g).done.getD i true = true then 0 else ((nxt T s j g).has.getD i 0#64).toNat) j1 g1 hne (fun i _ hij hig => by simp only [dn, hs, if_neg hij, if_neg hig])
    simp only [hj2, hg2, j2, g2, hs, hv, if_true] at h
    have hsm := hI.sm
    rw [← hcnt, Nat.mul_add, Nat.mul_one] at hsm
    simp only [Bool.false_eq_true, if_false] at h
    simp only [hs]
    omega
  · intro i hi
    have h := sumN_upd2 (n := ws.length) (j := j) (k := g) (f := fun c => (if c = i then (if s.done.getD c true = true then (s.bel.getD c 0#64).toNat else (s.has.getD c 0#64).toNat) else 0) + (if s.ali.getD c 0 = (i : Int) ∧ s.done.getD c true = true then T.toNat - (s.bel.getD c 0#64).toNat else 0))
      (g := fun c => (if c = i then (if (nxt T s j g).done.getD c true = true then ((nxt T s j g).bel.getD c 0#64).toNat else ((nxt T s j g).has.getD c 0#64).toNat) else 0) + (if (nxt T s j g).ali.getD c 0 = (i : Int) ∧ (nxt T s j g).done.getD c true = true then T.toNat - ((nxt T s j g).bel.getD c 0#64).toNat else 0)) j1 g1 hne (fun c _ hij hig => by simp only [dn, hs, be, al, if_neg hij, if_neg hig])
    have hw := hI.wt i hi
    simp only [hj2, hg2, j2, g2, hs, be, al, hv, if_true, Bool.false_eq_true, if_false, and_true, and_false, Nat.add_zero, if_neg (fun x => hne x.symm : ¬ g = j)] at h
    have e : ((g : Int) = (i : Int)) ↔ g = i := by omega
    simp only [e] at h
    by_cases hgi : g = i
    · have hji : ¬ j = i := by omega
      simp only [if_pos hgi, if_neg hji] at h
      simp only [hs, be, al]
      omega
    · by_cases hji : j = i
      · simp only [if_pos hji, if_neg hgi] at h
        simp only [hs, be, al]
        omega
      · simp only [if_neg hji, if_neg hgi] at h
        simp only [hs, be, al]
        omega
  · unfold cntS
    have l1 : (nxt T s j g).done.length = ws.length := by simp [nxt, hI.ld]
    rw [l1, hI.ld]
    omega
theorem inv_end {T : BitVec 64} {ws : List (BitVec 64)} {s : Sta} (hI : Inv T ws s) (hn : fidx (ltP T) s.has s.done = none) (i : Nat) (hi : i < ws.length) (hd : s.done.getD i true = false) : (s.has.getD i 0#64).toNat = T.toNat := by
  have hge : ∀ k, k < ws.length → s.done.getD k true = false → T.toNat ≤ (s.has.getD k 0#64).toNat := by
    intro k hk hkd
    have := fidx_none hn k (by rw [hI.lh]; exact hk) hkd
    have h2 : ¬ ui (s.has.getD k 0#64) < ui T := by simpa [ltP] using this
    rw [ui_lt_iff] at h2
    omega
  rcases Nat.lt_or_ge T.toNat (s.has.getD i 0#64).toNat with hlt | h2
  · exfalso
    have h := sumN_lt (n := ws.length) (j := i) (f := fun i => T.toNat * (if s.done.getD i true = true then 0 else 1)) (g := fun i => if s.done.getD i true = true then 0 else (s.has.getD i 0#64).toNat) hi (fun k hk => by
      by_cases hkd : s.done.getD k true = true
      · simp only [if_pos hkd]; omega
      · have hd' : s.done.getD k true = false := by simpa using hkd
        have := hge k hk hd'
        simp only [if_neg hkd]
        omega) (by simp only [hd]; simpa using hlt)
    rw [sumN_mul, hI.sm] at h
    omega
  · have := hge i hi hd
    omega
/-- of a table: how many pairs tell an item -/
def wN (T : BitVec 64) (bs : List (BitVec 64)) (ls : List Int) (j : Int) (c : Nat) : Nat := (if (c : Int) = j then (bs.getD c 0#64).toNat else 0) + (if ls.getD c 0 = j then T.toNat - (bs.getD c 0#64).toNat else 0)
theorem inv_weight {T : BitVec 64} {ws : List (BitVec 64)} {s : Sta} (hI : Inv T ws s) (hn : fidx (ltP T) s.has s.done = none) (i : Nat) (hi : i < ws.length) : sumN ws.length (wN T s.bel s.ali i) = ws.length * (ws.getD i 0#64).toNat := by
  rw [← hI.wt i hi]
  apply sumN_congr
  intro c hc
  unfold wN
  have e : ((c : Int) = (i : Int)) ↔ c = i := by omega
  simp only [e]
  by_cases hd : s.done.getD c true = true
  · simp only [hd, if_true, and_true]
  · have hd' : s.done.getD c true = false := by simpa using hd
    obtain ⟨h1, h2⟩ := hI.nd c hc hd'
    have h3 := inv_end hI hn c hc hd'
    simp only [hd', h1, h2, h3, e, Bool.false_eq_true, and_false, Nat.sub_self, ite_self, Nat.add_zero]
/-- the sum of the first weights -/
def tS (ws : List (BitVec 64)) : Nat → BitVec 64
  | 0 => 0#64
  | k + 1 => tS ws k + ws.getD k 0#64
/-- weights that may be -/
structure OkW (ws : List (BitVec 64)) : Prop where
  n1 : 1 ≤ ws.length
  n2 : ws.length ≤ 256
  hw : ∀ i, i < ws.length → (ws.getD i 0#64).toNat ≤ 4294967296
theorem tS_nat {ws : List (BitVec 64)} (h : OkW ws) (k : Nat) (hk : k ≤ ws.length) : (tS ws k).toNat = sumN k (fun i => (ws.getD i 0#64).toNat) ∧ sumN k (fun i => (ws.getD i 0#64).toNat) ≤ 4294967296 * k := by
  have hb := sumN_bound (n := k) (f := fun i => (ws.getD i 0#64).toNat) (b := 4294967296) (fun i hi => h.hw i (by omega))
  refine ⟨?_, hb⟩
  induction k with
  | zero => rfl
  | succ k ih =>
    have hb2 := sumN_bound (n := k) (f := fun i => (ws.getD i 0#64).toNat) (b := 4294967296) (fun i hi => h.hw i (by omega))
    have := h.hw k (by omega)
    have := h.n2
    unfold tS sumN
    rw [BitVec.toNat_add, ih (by omega) hb2, Nat.mod_eq_of_lt (by omega)]
/-- where the building begins -/
def st0 (ws : List (BitVec 64)) (T : BitVec 64) : Sta :=
  ⟨ws.map (fun x => BitVec.ofNat 64 ws.length * x), List.replicate ws.length false, List.replicate ws.length T, (List.range ws.length).map (fun (i : Nat) => (i : Int))⟩
theorem getD_map' {α β : Type} (f : α → β) (xs : List α) (i : Nat) (d : α) (e : β) (h : i < xs.length) : (xs.map f).getD i e = f (xs.getD i d) := by
  rw [getD_at _ _ _ (by rw [List.length_map]; exact h), getD_at _ _ _ h, List.getElem_map]
theorem getD_rep {α : Type} (n i : Nat) (v d : α) (h : i < n) : (List.replicate n v).getD i d = v := by
  rw [getD_at _ _ _ (by rw [List.length_replicate]; exact h), List.getElem_replicate]
theorem getD_range (n i : Nat) (d : Int) (h : i < n) : ((List.range n).map (fun (i : Nat) => (i : Int))).getD i d = (i : Int) := by
  rw [getD_at _ _ _ (by rw [List.length_map, List.length_range]; exact h), List.getElem_map, List.getElem_range]
theorem nw_nat {ws : List (BitVec 64)} (h : OkW ws) (i : Nat) (hi : i < ws.length) : (BitVec.ofNat 64 ws.length * ws.getD i 0#64).toNat = ws.length * (ws.getD i 0#64).toNat ∧ ws.length * (ws.getD i 0#64).toNat ≤ 1099511627776 := by
  have h1 := h.hw i hi
  have h2 := h.n2
  have h3 : ws.length * (ws.getD i 0#64).toNat ≤ 256 * 4294967296 := Nat.mul_le_mul h2 h1
  refine ⟨?_, by omega⟩
  rw [BitVec.toNat_mul, BitVec.toNat_ofNat, Nat.mod_eq_of_lt (show ws.length < 2 ^ 64 by omega), Nat.mod_eq_of_lt (by omega)]
theorem inv0 {ws : List (BitVec 64)} (h : OkW ws) : Inv (tS ws ws.length) ws (st0 ws (tS ws ws.length)) := by
  obtain ⟨ht, htb⟩ := tS_nat h ws.length (Nat.le_refl _)
  have dn : ∀ i, i < ws.length → (st0 ws (tS ws ws.length)).done.getD i true = false := fun i hi => getD_rep _ _ _ _ hi
  have hs : ∀ i, i < ws.length → (st0 ws (tS ws ws.length)).has.getD i 0#64 = BitVec.ofNat 64 ws.length * ws.getD i 0#64 := fun i hi => getD_map' _ _ _ _ _ hi
  have be : ∀ i, i < ws.length → (st0 ws (tS ws ws.length)).bel.getD i 0#64 = tS ws ws.length := fun i hi => getD_rep _ _ _ _ hi
  have al : ∀ i, i < ws.length → (st0 ws (tS ws ws.length)).ali.getD i 0 = (i : Int) := fun i hi => getD_range _ _ _ hi
  refine ⟨?_, ?_, ?_, ?_, ?_, ?_, ?_, ?_, ?_⟩
  · simp [st0]
  · simp [st0]
  · simp [st0]
  · simp [st0]
  · intro i hi _
    exact ⟨be i hi, al i hi⟩
  · intro i hi
    rw [be i hi]
    exact Nat.le_refl _
  · intro i hi
    rw [al i hi]
    omega
  · rw [sumN_congr (g := fun i => ws.length * (ws.getD i 0#64).toNat) (fun i hi => by rw [dn i hi, hs i hi, if_neg (by decide)]; exact (nw_nat h i hi).1), sumN_mul,
      sumN_congr (f := fun i => if (st0 ws (tS ws ws.length)).done.getD i true = true then 0 else 1) (g := fun _ => 1) (fun i hi => by rw [dn i hi, if_neg (by decide)]), sumN_one, ht, Nat.mul_comm]
  · intro i hi
    rw [sumN_single (j := i) hi]
    · rw [dn i hi, hs i hi, if_pos rfl, if_neg (by decide), if_neg (by simp), Nat.add_zero]
      exact (nw_nat h i hi).1
    · intro c hc hci
      rw [dn c hc, if_neg hci, if_neg (by simp)]
/-- where it ends -/
def fin (ws : List (BitVec 64)) : Sta := runA (tS ws ws.length) ws.length (st0 ws (tS ws ws.length))
theorem run_end {T : BitVec 64} {ws : List (BitVec 64)} (k : Nat) (s : Sta) (hI : Inv T ws s) (hc : cntS s ≤ k) : Inv T ws (runA T k s) ∧ fidx (ltP T) (runA T k s).has (runA T k s).done = none := by
  induction k generalizing s with
  | zero =>
    refine ⟨hI, ?_⟩
    show fidx (ltP T) s.has s.done = none
    rcases hj : fidx (ltP T) s.has s.done with _ | j
    · rfl
    · obtain ⟨g, hg⟩ := inv_gt hI hj
      have := (inv_step hI hj hg).2.2.2.2
      omega
  | succ k ih =>
    unfold runA stp
    rcases hj : fidx (ltP T) s.has s.done with _ | j
    · exact ⟨hI, hj⟩
    · obtain ⟨g, hg⟩ := inv_gt hI hj
      obtain ⟨_, _, _, h4, h5⟩ := inv_step hI hj hg
      simp only [hg]
      exact ih _ h4 (by omega)
theorem cnt_le (s : Sta) : cntS s ≤ s.done.length := by
  unfold cntS
  have := sumN_bound (n := s.done.length) (f := fun i => if s.done.getD i true = true then 0 else 1) (b := 1) (fun i _ => by split <;> omega)
  omega
theorem fin_inv {ws : List (BitVec 64)} (h : OkW ws) : Inv (tS ws ws.length) ws (fin ws) ∧ fidx (ltP (tS ws ws.length)) (fin ws).has (fin ws).done = none :=
  run_end _ _ (inv0 h) (by have := cnt_le (st0 ws (tS ws ws.length)); simpa [st0] using this)
theorem fin_ok {ws : List (BitVec 64)} (h : OkW ws) (h0 : tS ws ws.length ≠ 0#64) : OkT (tS ws ws.length) (fin ws).bel (fin ws).ali := by
  obtain ⟨hI, _⟩ := fin_inv h
  have := h.n1
  have := h.n2
  obtain ⟨ht, htb⟩ := tS_nat h ws.length (Nat.le_refl _)
  refine ⟨by rw [hI.lb]; omega, by rw [hI.lb]; omega, by rw [hI.la, hI.lb], h0, by omega, fun i hi => ?_, fun i hi => ?_⟩
  · rw [← getD_at _ _ 0#64 hi]
    exact hI.bt i (by rw [← hI.lb]; exact hi)
  · rw [← getD_at _ _ 0 hi, hI.lb]
    exact hI.ar i (by rw [← hI.la]; exact hi)
theorem pU_nat {T : BitVec 64} {bs : List (BitVec 64)} {ls : List Int} (hok : OkT T bs ls) (j : Int) (c : Nat) (hc : c < bs.length) : (pU bs ls j c T).toNat = wN T bs ls j c ∧ wN T bs ls j c ≤ 1099511627776 := by
  have hb := hok.at c hc
  have ht := hok.t1
  unfold pU
  rw [partB_T hb]
  unfold wN
  have hs : (T - bs.getD c 0#64).toNat = T.toNat - (bs.getD c 0#64).toNat := by
    have := T.isLt
    rw [BitVec.toNat_sub]; omega
  by_cases h1 : (c : Int) = j
  · by_cases h2 : ls.getD c 0 = j
    · simp only [if_pos h1, if_pos h2]
      rw [BitVec.toNat_add, hs]; omega
    · simp only [if_pos h1, if_neg h2]
      rw [BitVec.add_zero]; omega
  · by_cases h2 : ls.getD c 0 = j
    · simp only [if_neg h1, if_pos h2]
      rw [BitVec.zero_add, hs]; omega
    · simp only [if_neg h1, if_neg h2]
      exact ⟨rfl, by omega⟩
theorem wS_nat {T : BitVec 64} {bs : List (BitVec 64)} {ls : List Int} (hok : OkT T bs ls) (j : Int) (k : Nat) (hk : k ≤ bs.length) : (wS bs ls j T k).toNat = sumN k (wN T bs ls j) ∧ sumN k (wN T bs ls j) ≤ 1099511627776 * k := by
  have hb := sumN_bound (n := k) (f := wN T bs ls j) (b := 1099511627776) (fun i hi => (pU_nat hok j i (by omega)).2)
  refine ⟨?_, hb⟩
  induction k with
  | zero => rfl
  | succ k ih =>
    have hb2 := sumN_bound (n := k) (f := wN T bs ls j) (b := 1099511627776) (fun i hi => (pU_nat hok j i (by omega)).2)
    obtain ⟨p1, p2⟩ := pU_nat hok j k (by omega)
    have := hok.n2
    unfold wS sumN
    rw [BitVec.toNat_add, ih (by omega) hb2, p1, Nat.mod_eq_of_lt (by omega)]
theorem fin_weight {ws : List (BitVec 64)} (h : OkW ws) (h0 : tS ws ws.length ≠ 0#64) (i : Nat) (hi : i < ws.length) : wS (fin ws).bel (fin ws).ali (i : Int) (tS ws ws.length) ws.length = BitVec.ofNat 64 ws.length * ws.getD i 0#64 := by
  obtain ⟨hI, hn⟩ := fin_inv h
  apply BitVec.eq_of_toNat_eq
  rw [(wS_nat (fin_ok h h0) (i : Int) ws.length (by rw [hI.lb]; exact Nat.le_refl _)).1, inv_weight hI hn i hi, (nw_nat h i hi).1]
theorem runA_done {T : BitVec 64} {s : Sta} (k : Nat) (h : fidx (ltP T) s.has s.done = none) : runA T k s = s := by
  cases k with
  | zero => rfl
  | succ k => unfold runA stp; rw [h]
theorem runA_next {T : BitVec 64} {s : Sta} (k j g : Nat) (h : fidx (ltP T) s.has s.done = some j) (hg : fidx (gtP T) s.has s.done = some g) : runA T (k + 1) s = runA T k (nxt T s j g) := by
  rw [runA, stp, h]
  simp only [hg]
end Go.Proofs.Ytodflmngbkiemaa
