/-
  MixPieces: what Fold gives.
-/
import Derived.Test.YtihhnicfkeiglaaMa2
import Derived.Test.YtihhnicfkeiglaaOm29
set_option linter.all false
namespace Go.Proofs.Ytihhnicfkeiglaa.Mix
open Go Go.Om

def K2 : BitVec 64 := 11400714819323198485#64
def stepB (x a : BitVec 64) : BitVec 64 := mixB ((x ^^^ a) + K2)
def foldB (s : BitVec 64) (l : List (BitVec 64)) : BitVec 64 := l.foldl stepB (mixB s)
def row64 (l : List (BitVec 64)) : List (List IV) := l.map fun b => [u64 b]

theorem call_mix {h : Hp} (x : BitVec 64) : callV xr (ac F xr xp) false (.fn 24 []) [.iv (u64 x)] h = some (.iv (u64 (mixB x)), h) :=
  callV_tree (vs' := [.iv (u64 x)]) (l := false) rfl (mix_ac x) (by simp) (by simp)

theorem lit_K2 : IV.int .u64 11400714819323198485 = u64 K2 := by unfold u64; congr 1

theorem fold_loop (l : List (BitVec 64)) (hl : l.length < 9223372036854775807) : ∀ (m i : Nat) (e : AEnv) (h : Hp) (x : BitVec 64), i + m = l.length → e 5 = .iv (u64 x) → e 10 = .iv (.sl (row64 l)) → e 11 = .i l.length → e 12 = .i i →
    ∃ e', aex F xr xp (.loop f8_b0) e h = some (.exit 0, e', h) ∧ e' 5 = .iv (u64 ((l.drop i).foldl stepB x)) := by
  intro m
  induction m with
  | zero =>
    intro i e h x him h5 h10 h11 h12
    refine ⟨upd e (some 13) (.iv (.bool (decide ((i : Int) < l.length)))), ?_, ?_⟩
    · rw [aex_loop]
      simp only [f8_b0, f8_r3, aex_seq, aex_reg, arun, astep, Opd.ev, h11, h12, abin_lss, Option.map_some, Option.bind_some, andThen_nrm]
      rw [aex_cond (t := decide ((i : Int) < l.length)) (by simp [Opd.ev, upd_get])]
      rw [if_neg (by simp; omega)]
      simp only [aex_exit, andThen_exit]
    · simp [upd_get, h5, List.drop_eq_nil_of_le (show l.length ≤ i by omega)]
  | succ m ih =>
    intro i e h x him h5 h10 h11 h12
    have hi : i < l.length := by omega
    have hel : (row64 l)[i]? = some [u64 l[i]] := by simp [row64, hi]
    have hwrap : IntKind.wrap .i64 ((i : Int) + 1) = ((i + 1 : Nat) : Int) := by rw [wrapi (by omega) (by omega)]; rfl
    rw [aex_loop]
    simp only [f8_b0, f8_r3, aex_seq, aex_reg, arun, astep, Opd.ev, h11, h12, abin_lss, Option.map_some, Option.bind_some, andThen_nrm]
    rw [aex_cond (t := decide ((i : Int) < l.length)) (by simp [Opd.ev, upd_get])]
    rw [if_pos (by simp; omega)]
    simp [f8_r4, f8_r5, f8_r6, aex_seq, aex_reg, aex_block, aex_skip, arun, astep, Opd.ev, upd_get, h5, h10, h11, h12, aint, hel, lit_K2, abin_xor, abin_add, abin_addi, call_mix, hwrap]
    refine Exists.imp (fun e' => And.imp_right fun h2 => ?_) (ih (i + 1) _ h (stepB x l[i]) (by omega) ?_ ?_ ?_ ?_)
    · rw [h2, List.drop_eq_getElem_cons hi]
      rfl
    all_goals simp [upd_get, h10, h11, stepB]

theorem fold_ac (s : BitVec 64) (l : List (BitVec 64)) (hl : l.length < 9223372036854775807) : ac F xr xp 8 [.iv (u64 s), .iv (.sl (row64 l))] ⟨[], 0⟩ = some (.iv (u64 (foldB s l)), ⟨[], 0⟩) := by
  rw [ac_fn rfl rfl]
  simp [f8, f8_c, f8_r0, f8_r1, f8_r2, aex_seq, aex_reg, aex_block, arun, astep, Opd.ev, upd_get, startEnv, call_mix, elemsOf]
  obtain ⟨e', h1, h2⟩ := fold_loop l hl l.length 0 (upd (upd (upd (upd (upd (upd (upd (startEnv [.iv (u64 s), .iv (.sl (row64 l))]) (some 4) (.iv (.int .u64 0))) (some 8) (.iv (u64 s))) (some 9) (.iv (u64 (mixB s)))) (some 5) (.iv (u64 (mixB s)))) (some 10) (.iv (.sl (row64 l)))) (some 11) (.i l.length)) (some 12) (.i 0)) ⟨[], 0⟩ (mixB s) (by omega) (by simp [upd_get]) (by simp [upd_get]) (by simp [upd_get]) (by simp [upd_get])
  simp only [startEnv, row64, List.length_map] at h1 ⊢
  rw [h1]
  simp [f8_r7, arun, astep, aex_seq, aex_reg, aex_ret, Opd.ev, upd_get, h2, finR_ret, aresult, aress, ares, finish, fin, finT, finC, rowsOut, bxOk, foldB]
end Go.Proofs.Ytihhnicfkeiglaa.Mix
