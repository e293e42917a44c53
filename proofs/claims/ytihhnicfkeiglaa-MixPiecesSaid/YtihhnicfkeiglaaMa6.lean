/-
  MixPieces: Pieces gives numbers.
-/
import Derived.Test.YtihhnicfkeiglaaMa5
set_option linter.all false
namespace Go.Proofs.Ytihhnicfkeiglaa.Mix
open Go Go.Om

theorem lit_256 : IV.int .u64 256 = u64 256#64 := rfl
theorem lit_0 : IV.int .u64 0 = u64 0#64 := rfl
theorem wrap_u8 (c : UInt8) : IV.int .u64 (IntKind.wrap .u64 (c.toNat : Int)) = u64 (BitVec.ofNat 64 c.toNat) := by
  unfold u64
  rw [wrap64, BitVec.toNat_ofNat]
theorem wrap_len (n : Nat) : IV.int .u64 (IntKind.wrap .u64 (n : Int)) = u64 (BitVec.ofNat 64 n) := by
  unfold u64
  rw [wrap64, BitVec.toNat_ofNat]

theorem inner (s : ByteArray) (i : Nat) (hs : s.size ≤ 3000) (hi : i ≤ 3000) : ∀ (m : Nat) (e : AEnv) (h : Hp) (p : BitVec 64), m ≤ 8 → e 6 = .i ((m : Int) - 1) → e 5 = .iv (u64 p) → e 4 = .i i → e 0 = .s s →
    ∃ e', aex F xr xp (.loop f7_b1) e h = some (.exit 2, e', h) ∧ (∃ q, e' 5 = .iv (u64 q)) ∧ e' 4 = .i i ∧ e' 0 = .s s ∧ e' 3 = e 3 := by
  intro m
  induction m with
  | zero =>
    intro e h p hm h6 h5 h4 h0
    refine ⟨upd (upd e (some 17) (.i (-1))) (some 18) (.b false), ?_, ⟨p, by simp [upd_get, h5]⟩, by simp [upd_get, h4], by simp [upd_get, h0], by simp [upd_get]⟩
    rw [aex_loop]
    simp [f7_b1, f7_r6, aex_seq, aex_reg, arun, astep, Opd.ev, upd_get, h6, abin_geq]
    rw [aex_cond (t := false) (by simp [Opd.ev, upd_get])]
    simp [aex_exit]
  | succ m ih =>
    intro e h p hm h6 h5 h4 h0
    have e6 : ((m + 1 : Nat) : Int) - 1 = (m : Int) := by omega
    rw [e6] at h6
    have hw1 : IntKind.wrap .i64 ((i : Int) + (m : Int)) = (i : Int) + (m : Int) := wrapi (by omega) (by omega)
    have h0le : (0 : Int) ≤ (i : Int) + (m : Int) := by omega
    have htn : ((i : Int) + (m : Int)).toNat = i + m := by omega
    have hw2 : IntKind.wrap .i64 ((m : Int) - 1) = (m : Int) - 1 := wrapi (by omega) (by omega)
    rw [aex_loop]
    simp [f7_b1, f7_r6, aex_seq, aex_reg, arun, astep, Opd.ev, upd_get, h6, abin_geq]
    rw [aex_cond (t := true) (by simp [Opd.ev, upd_get])]
    simp [f7_r7, f7_r8, f7_r10, aex_skip, aex_block, aex_seq, aex_reg, arun, astep, Opd.ev, upd_get, h6, h5, h4, h0, lit_256, abin_mul, abin_addi, abin_lss, hw1]
    rw [aex_cond (t := decide ((i : Int) + (m : Int) < s.size)) (by simp [Opd.ev, upd_get])]
    by_cases hlt : i + m < s.size
    · rw [if_pos (by simp; omega)]
      obtain ⟨c, hc⟩ : ∃ c, s.data[i + m]? = some c := ⟨_, Array.getElem?_eq_getElem hlt⟩
      simp [f7_r9, aex_reg, arun, astep, Opd.ev, upd_get, h6, h5, h4, h0, hw1, hw2, h0le, htn, aint, hc, wrap_u8, abin_add, abin_addi, abin_subi]
      refine Exists.imp (fun e' => And.imp_right fun h2 => ⟨h2.1, h2.2.1, h2.2.2.1, ?_⟩) (ih _ h (p * 256#64 + BitVec.ofNat 64 c.toNat) (by omega) ?_ ?_ ?_ ?_)
      · rw [h2.2.2.2]; simp [upd_get]
      all_goals simp [upd_get, h4, h0]
    · rw [if_neg (by simp; omega)]
      simp [aex_skip, aex_reg, arun, astep, Opd.ev, upd_get, h6, hw2, abin_subi]
      refine Exists.imp (fun e' => And.imp_right fun h2 => ⟨h2.1, h2.2.1, h2.2.2.1, ?_⟩) (ih _ h (p * 256#64) (by omega) ?_ ?_ ?_ ?_)
      · rw [h2.2.2.2]; simp [upd_get]
      all_goals simp [upd_get, h4, h0]
end Go.Proofs.Ytihhnicfkeiglaa.Mix
