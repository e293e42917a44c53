/-
  MixPieces: what Mix gives.
-/
import Derived.Test.YtihhnicfkeiglaaMa1
import Derived.Test.YtihhnicfkeiglaaOm29
set_option linter.all false
namespace Go.Proofs.Ytihhnicfkeiglaa.Mix
open Go Go.Om

def F : Nat → Option AFn
  | 6 => some f6
  | 7 => some f7
  | 8 => some f8
  | 9 => some f9
  | 24 => some f24
  | 25 => some f25
  | 3 => some f3
  | _ => none
def xr : Xr := fun _ _ _ => none
def xp : Hdl := fun _ _ _ => none

def u64 (b : BitVec 64) : IV := .int .u64 (b.toNat : Int)
theorem wrap64 (n : Nat) : IntKind.wrap .u64 (n : Int) = ((n % 2 ^ 64 : Nat) : Int) := by
  simp [IntKind.wrap, IntKind.bits, IntKind.signed]
theorem abin_xor (a b : BitVec 64) : abin .xor (u64 a) (u64 b) = some (u64 (a ^^^ b)) := by
  have h1 : BitVec.ofInt 64 (a.toNat : Int) = a := by simp
  have h2 : BitVec.ofInt 64 (b.toNat : Int) = b := by simp
  simp only [abin, u64, if_true, IntKind.bits]
  rw [h1, h2, wrap64, Nat.mod_eq_of_lt (BitVec.isLt _)]
  rfl
theorem abin_add (a b : BitVec 64) : abin .add (u64 a) (u64 b) = some (u64 (a + b)) := by
  simp only [abin, u64, if_true]
  rw [← Int.natCast_add, wrap64, BitVec.toNat_add]
theorem abin_mul (a b : BitVec 64) : abin .mul (u64 a) (u64 b) = some (u64 (a * b)) := by
  simp only [abin, u64, if_true]
  rw [← Int.natCast_mul, wrap64, BitVec.toNat_mul]
theorem abin_shr32 (a : BitVec 64) : abin .shr (u64 a) (.int .u64 32) = some (u64 (a >>> 32)) := by
  have h1 : (BitVec.toNat a : Int).fdiv (2 ^ 32) = (((a >>> 32 : BitVec 64)).toNat : Int) := by
    rw [BitVec.toNat_ushiftRight, Nat.shiftRight_eq_div_pow, Int.fdiv_eq_ediv_of_nonneg _ (by omega)]
    simp
  simp only [abin, u64]
  rw [if_neg (by omega)]
  show some (IV.int .u64 ((a.toNat : Int).fdiv (2 ^ 32))) = _
  rw [h1]

theorem upd_same {e : AEnv} {t : Nat} {v : AV} : upd e (some t) v t = v := by simp [upd]


theorem abin_lss {k : IntKind} (a b : Int) : abin .lss (.int k a) (.int k b) = some (.bool (decide (a < b))) := by simp [abin]
theorem abin_gtr {k : IntKind} (a b : Int) : abin .gtr (.int k a) (.int k b) = some (.bool (decide (a > b))) := by simp [abin]
theorem abin_geq {k : IntKind} (a b : Int) : abin .geq (.int k a) (.int k b) = some (.bool (decide (a ≥ b))) := by simp [abin]
theorem abin_eql {k : IntKind} (a b : Int) : abin .eql (.int k a) (.int k b) = some (.bool (a == b)) := by simp [abin]
theorem abin_neq {k : IntKind} (a b : Int) : abin .neq (.int k a) (.int k b) = some (.bool (a != b)) := by simp [abin]
theorem abin_addi (a b : Int) : abin .add (.int .i64 a) (.int .i64 b) = some (.int .i64 (IntKind.wrap .i64 (a + b))) := by simp [abin]
theorem abin_subi (a b : Int) : abin .sub (.int .i64 a) (.int .i64 b) = some (.int .i64 (IntKind.wrap .i64 (a - b))) := by simp [abin]
theorem wrapi {n : Int} (h1 : -9223372036854775808 ≤ n) (h2 : n < 9223372036854775808) : IntKind.wrap .i64 n = n := by
  simp only [IntKind.wrap, IntKind.bits, IntKind.signed]
  simp
  omega
def K1 : BitVec 64 := 15485907386658061715#64
def mixB (x : BitVec 64) : BitVec 64 :=
  let x1 := (x ^^^ (x >>> 32)) * K1
  let x2 := (x1 ^^^ (x1 >>> 32)) * K1
  x2 ^^^ (x2 >>> 32)

theorem mix_ac (x : BitVec 64) : ac F xr xp 24 [.iv (u64 x)] ⟨[], 0⟩ = some (.iv (u64 (mixB x)), ⟨[], 0⟩) := by
  rw [ac_fn rfl rfl]
  have hK : IV.int .u64 15485907386658061715 = u64 K1 := by unfold u64; congr 1
  simp only [f24, f24_c, f24_b0, f24_r0, f24_r1, f24_r2, f24_r3, f24_r4, f24_r5, f24_r6, hK]
  simp [mixB, aex_seq, aex_reg, aex_block, aex_loop, aex_cond, aex_skip, aex_exit, aex_ret, arun, astep, Opd.ev, upd_get, startEnv, abin_xor, abin_mul, abin_shr32, abin_lss, abin_addi, wrapi, finR, aresult, aress, ares, finish, fin, finT, finC, rowsOut, bxOk]
end Go.Proofs.Ytihhnicfkeiglaa.Mix
