/-
  MixPieces: Below at its one use, and awake.
-/
import Derived.Test.YtihhnicfkeiglaaMa3
set_option linter.all false
namespace Go.Proofs.Ytihhnicfkeiglaa.Mix
open Go Go.Om

theorem below_ac : ac F xr xp 25 [.iv (.int .u64 18446744073709551615), .i 10] ⟨[], 0⟩ = some (.i 9, ⟨[], 0⟩) := by
  rw [ac_fn rfl rfl]
  have h1 : abin .shr (.int .u64 18446744073709551615) (.int .u64 32) = some (.int .u64 4294967295) := by kernel_rfl
  have h2 : abin .mul (.int .u64 4294967295) (.int .u64 10) = some (.int .u64 42949672950) := by kernel_rfl
  have h3 : abin .shr (.int .u64 42949672950) (.int .u64 32) = some (.int .u64 9) := by kernel_rfl
  have h4 : IntKind.wrap .u64 10 = 10 := by decide +kernel
  have h5 : IntKind.wrap .i64 9 = 9 := by decide +kernel
  simp [f25, f25_c, f25_r0, f25_r1, f25_r3, aex_seq, aex_reg, aex_skip, aex_ret, arun, astep, Opd.ev, upd_get, startEnv, abin_lss, abin_gtr]
  rw [aex_cond (t := false) (by simp [Opd.ev, upd_get])]
  simp [aex_skip, aex_seq, aex_reg, aex_ret, arun, astep, Opd.ev, upd_get, startEnv, h1, h2, h3, h4, h5, finR_ret, aresult, aress, ares, finish, fin, finT, finC, rowsOut, bxOk]

theorem mixB_one : u64 (mixB 1#64) = .int .u64 4717996019076358352 := by
  have : (mixB 1#64).toNat = 4717996019076358352 := by decide +kernel
  unfold u64
  rw [this]
  rfl
theorem lit_one : IV.int .u64 1 = u64 1#64 := rfl
theorem call_below {h : Hp} : callV xr (ac F xr xp) false (.fn 25 []) [.iv (.int .u64 18446744073709551615), .i 10] h = some (.i 9, h) :=
  callV_tree (vs' := [.iv (.int .u64 18446744073709551615), .i 10]) (l := false) rfl below_ac (by simp) (by simp)
theorem call_mix1 {h : Hp} : callV xr (ac F xr xp) false (.fn 24 []) [.iv (.int .u64 1)] h = some (.iv (.int .u64 4717996019076358352), h) := by
  rw [lit_one, call_mix, mixB_one]
theorem awake_ac : ac F xr xp 6 [] ⟨[], 0⟩ = some (.b true, ⟨[], 0⟩) := by
  rw [ac_fn rfl rfl]
  simp [f6, f6_c, f6_r0, f6_r1, aex_seq, aex_reg, aex_ret, arun, astep, Opd.ev, upd_get, startEnv, call_mix1, call_below, abin_eql, finR_ret, aresult, aress, ares, finish, fin, finT, finC, rowsOut, bxOk]
theorem call_awake {h : Hp} : callV xr (ac F xr xp) false (.fn 6 []) [] h = some (.b true, h) :=
  callV_tree (vs' := []) (l := false) rfl awake_ac (by simp) (by simp)
end Go.Proofs.Ytihhnicfkeiglaa.Mix
