/-
  MixPieces: one region of Text: a byte is laid into the last piece.
-/
import Derived.Test.YtihhnicfkeiglaaMa8
set_option linter.all false
namespace Go.Proofs.Ytihhnicfkeiglaa.Mix
open Go Go.Om
theorem r7 (s : ByteArray) (i : Nat) (e : AEnv) (h : Hp) (v : Nat) (l : List (BitVec 64)) (c : UInt8) (a : BitVec 64) (hi : i ≤ 3000) (h5 : e 5 = .osl 0 v) (h1 : e 1 = .s s) (h6 : e 6 = .i i) (hrow : h.objs[0]? = some (.row 22 1 v (row64 l))) (hl0 : 0 < l.length) (hl1 : l.length ≤ 4000) (hc : s.data[i]? = some c) (ha : (row64 l)[l.length - 1]? = some [u64 a]) :
    ∃ e', arunD xr (ac F xr xp) [0, 0, 2, 6, 15, 31, 0, 0, 192, 448, 0, 1024, 3072, 8128, 16383, 32767, 65535] f9_r7 e h = some (e', { h with objs := h.objs.set 0 (.row 22 1 v ((row64 l).set (l.length - 1) [u64 (a ||| (BitVec.ofNat 64 c.toNat <<< (8 * (i % 8))))])) }) ∧ e' 5 = .osl 0 v ∧ e' 0 = e 0 ∧ e' 12 = e 12 ∧ e' 13 = e 13 ∧ e' 1 = .s s := by
  have hrw : Om.rowAt h 0 v = some (22, 1, row64 l) := rowAt_of hrow
  have hlen : (row64 l).length = l.length := by simp [row64]
  have hw1 : IntKind.wrap .i64 ((l.length : Int) - 1) = (l.length : Int) - 1 := wrapi (by omega) (by omega)
  have h0 : (0 : Int) ≤ (l.length : Int) - 1 := by omega
  have ha' : (row64 l)[l.length - 1]'(by rw [hlen]; omega) = [u64 a] := by
    rw [List.getElem?_eq_getElem (by rw [hlen]; omega)] at ha
    exact Option.some.inj ha
  have h0' : (1 : Int) ≤ (l.length : Int) := by omega
  have ht : ((l.length : Int) - 1).toNat = l.length - 1 := by omega
  have hcell : cellsAt h 0 v (l.length - 1) = some [.iv (u64 a)] := by simp [cellsAt, hrow, ha]
  have hlt : l.length - 1 < l.length := by omega
  have hm : abin .mul (.int .i64 8) (.int .i64 ((i % 8 : Nat) : Int)) = some (.int .i64 ((8 * (i % 8) : Nat) : Int)) := by
    simp only [abin, if_true]
    rw [wrapi (by omega) (by omega)]
    rfl
  have hsh := abin_shl (BitVec.ofNat 64 c.toNat) (8 * (i % 8)) (by omega)
  simp [arunD, f9_r7, arunF, astep, Opd.ev, upd_get, upd_none, h5, h1, h6, elemsOf, hrw, hlen, hw1, h0, h0', hl0, ht, hlt, hcell, aint, hc, wrap_u8, abin_subi, abin_rem8, hm, hsh, abin_or, cellsOf, isCell, hrow, toIVs, ha, ha', splice, -Int.natCast_emod, -Int.natCast_mul, lookOf, touch, AI.heap, foot, AI.cls, AI.opds, refs, refs1, putNe, modOf, apartOk, told, bit, meet]
end Go.Proofs.Ytihhnicfkeiglaa.Mix
