/-
  MixPieces: the plain law: mixing loses nothing; folds of lists that part at one place alone part.
-/
import Derived.Test.YtihhnicfkeiglaaMa4
set_option linter.all false
namespace Go.Proofs.Ytihhnicfkeiglaa.Mix
open Go Go.Om

theorem shift_back (x : BitVec 64) : (x ^^^ (x >>> 32)) ^^^ ((x ^^^ (x >>> 32)) >>> 32) = x := by
  ext i hi
  simp only [BitVec.getElem_xor, BitVec.getElem_ushiftRight, BitVec.getLsbD_xor, BitVec.getLsbD_ushiftRight]
  have h64 : x.getLsbD (32 + (32 + i)) = false := BitVec.getLsbD_of_ge _ _ (by omega)
  rw [h64, Bool.xor_false]
  simp
theorem shift_inj {x y : BitVec 64} (h : x ^^^ (x >>> 32) = y ^^^ (y >>> 32)) : x = y := by
  rw [← shift_back x, ← shift_back y, h]
def Kinv : BitVec 64 := 14982988110149298331#64
theorem K_inv : K1 * Kinv = 1#64 := by decide +kernel
theorem mul_inj {x y : BitVec 64} (h : x * K1 = y * K1) : x = y := by
  have h2 : x * K1 * Kinv = y * K1 * Kinv := by rw [h]
  rwa [BitVec.mul_assoc, BitVec.mul_assoc, K_inv, BitVec.mul_one, BitVec.mul_one] at h2
theorem mixB_inj {x y : BitVec 64} (h : mixB x = mixB y) : x = y :=
  shift_inj (mul_inj (shift_inj (mul_inj (shift_inj h))))
theorem stepB_inj {x y a : BitVec 64} (h : stepB x a = stepB y a) : x = y := by
  have h1 : (x ^^^ a) + K2 = (y ^^^ a) + K2 := mixB_inj h
  have h2 : x ^^^ a = y ^^^ a := by
    have := congrArg (· - K2) h1
    simpa using this
  have h3 : (x ^^^ a) ^^^ a = (y ^^^ a) ^^^ a := by rw [h2]
  simpa [BitVec.xor_assoc] using h3
theorem stepB_inj2 {x a b : BitVec 64} (h : stepB x a = stepB x b) : a = b := by
  have h1 : (x ^^^ a) + K2 = (x ^^^ b) + K2 := mixB_inj h
  have h2 : x ^^^ a = x ^^^ b := by
    have := congrArg (· - K2) h1
    simpa using this
  have h3 : x ^^^ (x ^^^ a) = x ^^^ (x ^^^ b) := by rw [h2]
  simpa [← BitVec.xor_assoc] using h3
theorem foldl_inj (l : List (BitVec 64)) : ∀ {x y : BitVec 64}, l.foldl stepB x = l.foldl stepB y → x = y := by
  induction l with
  | nil => intro x y h; exact h
  | cons a r ih => intro x y h; exact stepB_inj (ih h)
/-- The theorem of pieces. -/
theorem fold_set (s : BitVec 64) (l : List (BitVec 64)) (k : Nat) (hk : k < l.length) (a : BitVec 64) : foldB s (l.set k a) = foldB s l ↔ a = l[k] := by
  constructor
  · intro h
    unfold foldB at h
    have h1 : l = l.take k ++ l[k] :: l.drop (k + 1) := by rw [← List.drop_eq_getElem_cons hk, List.take_append_drop]
    have h2 : l.set k a = l.take k ++ a :: l.drop (k + 1) := by rw [List.set_eq_take_append_cons_drop, if_pos hk]
    rw [h2] at h
    conv at h => rhs; rw [h1]
    rw [List.foldl_append, List.foldl_append, List.foldl_cons, List.foldl_cons] at h
    exact stepB_inj2 (foldl_inj _ h)
  · intro h
    rw [h, List.set_getElem_self]
end Go.Proofs.Ytihhnicfkeiglaa.Mix
