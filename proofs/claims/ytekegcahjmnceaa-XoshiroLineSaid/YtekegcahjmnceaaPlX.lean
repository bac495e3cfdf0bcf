/- Plain laws of xoshiro256 (chapter 9): bit vectors alone. No condition. -/
import Derived.WalkKit
namespace Go.Proofs.Ytekegcahjmnceaa
/-! xoshiro -/
structure S4 where
  a : BitVec 64
  b : BitVec 64
  c : BitVec 64
  d : BitVec 64
def xsStep (s : S4) : S4 := ⟨s.a ^^^ (s.d ^^^ s.b), s.b ^^^ (s.c ^^^ s.a), s.c ^^^ s.a ^^^ s.b <<< 17, (s.d ^^^ s.b).rotateLeft 45⟩
def xsOne (y : BitVec 64) : BitVec 64 := y ^^^ y <<< 17 ^^^ y <<< 34 ^^^ y <<< 51
def xsBack (s : S4) : S4 :=
  let r := s.d.rotateLeft 19
  let one := xsOne (s.b ^^^ s.c)
  ⟨s.a ^^^ r, one, s.b ^^^ one ^^^ (s.a ^^^ r), r ^^^ one⟩
theorem rot_back (x : BitVec 64) : (x.rotateLeft 45).rotateLeft 19 = x := by
  ext i hi
  simp only [BitVec.getElem_rotateLeft]
  repeat' split
  all_goals (first | (exfalso; omega) | (congr 1; omega))
theorem rot_forth (x : BitVec 64) : (x.rotateLeft 19).rotateLeft 45 = x := by
  ext i hi
  simp only [BitVec.getElem_rotateLeft]
  repeat' split
  all_goals (first | (exfalso; omega) | (congr 1; omega))
theorem shl_xor (a b : BitVec 64) (n : Nat) : (a ^^^ b) <<< n = a <<< n ^^^ b <<< n := by
  ext i hi; simp; cases decide (i < n) <;> simp
theorem shl_shl (a : BitVec 64) (n m : Nat) : (a <<< n) <<< m = a <<< (n + m) := by rw [BitVec.shiftLeft_add]
theorem shl_big (a : BitVec 64) (n : Nat) (h : 64 ≤ n) : a <<< n = 0 := by
  exact BitVec.shiftLeft_eq_zero h
theorem xor4 (a b c d e : BitVec 64) (he : e = 0) : (a ^^^ b) ^^^ (b ^^^ c) ^^^ (c ^^^ d) ^^^ (d ^^^ e) = a := by
  subst he
  ext i hi; simp
theorem one_of (x : BitVec 64) : xsOne (x ^^^ x <<< 17) = x := by
  unfold xsOne
  rw [shl_xor, shl_xor, shl_xor, shl_shl, shl_shl, shl_shl]
  exact xor4 _ _ _ _ _ (shl_big _ _ (by decide))
theorem tele (a b c d e : BitVec 64) (he : e = 0) : (a ^^^ b ^^^ c ^^^ d) ^^^ (b ^^^ c ^^^ d ^^^ e) = a := by
  subst he
  ext i hi; simp
theorem of_one (y : BitVec 64) : xsOne y ^^^ (xsOne y) <<< 17 = y := by
  have h : (xsOne y) <<< 17 = y <<< 17 ^^^ y <<< 34 ^^^ y <<< 51 ^^^ y <<< 68 := by
    unfold xsOne
    rw [shl_xor, shl_xor, shl_xor, shl_shl, shl_shl, shl_shl]
  rw [h]
  exact tele _ _ _ _ _ (shl_big _ _ (by decide))
theorem xsBack_step (s : S4) : xsBack (xsStep s) = s := by
  obtain ⟨a, b, c, d⟩ := s
  have e1 : b ^^^ (c ^^^ a) ^^^ (c ^^^ a ^^^ b <<< 17) = b ^^^ b <<< 17 := by
    ext i hi; simp
    cases a[i] <;> cases b[i] <;> cases c[i] <;> simp
  simp only [xsBack, xsStep, rot_back, e1, one_of]
  refine S4.mk.injEq .. |>.mpr ⟨?_, rfl, ?_, ?_⟩
  · ext i hi; simp
  · ext i hi; simp; cases a[i] <;> cases b[i] <;> cases c[i] <;> cases d[i] <;> rfl
  · ext i hi; simp
theorem xsStep_back (s : S4) : xsStep (xsBack s) = s := by
  obtain ⟨a, b, c, d⟩ := s
  have h := of_one (b ^^^ c)
  have hr := rot_forth d
  simp only [xsBack, xsStep]
  generalize hone : xsOne (b ^^^ c) = one at *
  generalize hrr : d.rotateLeft 19 = r at *
  have h2 : one <<< 17 = one ^^^ (b ^^^ c) := by rw [← h, ← BitVec.xor_assoc, BitVec.xor_self, BitVec.zero_xor]
  have h3 : r ^^^ one ^^^ one = r := by rw [BitVec.xor_assoc, BitVec.xor_self, BitVec.xor_zero]
  rw [h2, h3]
  refine S4.mk.injEq .. |>.mpr ⟨?_, ?_, ?_, hr⟩
  · ext i hi; simp
  · ext i hi; simp; cases a[i] <;> cases r[i] <;> cases one[i] <;> cases b[i] <;> rfl
  · ext i hi; simp
end Go.Proofs.Ytekegcahjmnceaa
