/-
  MixPieces: words for what Text gives.
-/
import Derived.Test.YtihhnicfkeiglaaMa7
set_option linter.all false
namespace Go.Proofs.Ytihhnicfkeiglaa.Mix
open Go Go.Om

/-- One byte more: a new piece at each eighth. -/
def putB (l : List (BitVec 64)) (i : Nat) (c : UInt8) : List (BitVec 64) :=
  let l1 := if i % 8 = 0 then l ++ [0#64] else l
  l1.set (l1.length - 1) (l1.getD (l1.length - 1) 0 ||| (BitVec.ofNat 64 c.toNat <<< (8 * (i % 8))))
def textB (bs : List UInt8) : List (BitVec 64) := (bs.zipIdx).foldl (fun l p => putB l p.2 p.1) [BitVec.ofNat 64 bs.length]

theorem abin_or (a b : BitVec 64) : abin .or (u64 a) (u64 b) = some (u64 (a ||| b)) := by
  have h1 : BitVec.ofInt 64 (a.toNat : Int) = a := by simp
  have h2 : BitVec.ofInt 64 (b.toNat : Int) = b := by simp
  simp only [abin, u64, if_true, IntKind.bits]
  rw [h1, h2, wrap64, Nat.mod_eq_of_lt (BitVec.isLt _)]
  rfl
theorem abin_shl (a : BitVec 64) (n : Nat) (hn : n < 64) : abin .shl (u64 a) (.int .i64 n) = some (u64 (a <<< n)) := by
  unfold u64
  simp only [abin]
  rw [if_neg (by omega)]
  have h1 : min ((n : Int)).toNat (IntKind.bits .u64) = n := by
    show min n 64 = n
    omega
  rw [h1, BitVec.toNat_shiftLeft, Nat.shiftLeft_eq, ← wrap64]
  push_cast
  rfl

theorem abin_rem8 (i : Nat) : abin .rem (.int .i64 i) (.int .i64 8) = some (.int .i64 ((i % 8 : Nat) : Int)) := by
  simp only [abin, if_true]
  rw [if_neg (by omega)]
  rfl
theorem abin_eql0 (n : Nat) : abin .eql (.int .i64 n) (.int .i64 0) = some (.bool (decide (n = 0))) := by
  simp only [abin, if_true]
  congr 2
  rw [Bool.eq_iff_iff]
  simp
theorem textB_step (bs : List UInt8) (i : Nat) (hi : i < bs.length) (l : List (BitVec 64)) : ((bs.drop i).zipIdx i).foldl (fun l p => putB l p.2 p.1) l = ((bs.drop (i + 1)).zipIdx (i + 1)).foldl (fun l p => putB l p.2 p.1) (putB l i bs[i]) := by
  rw [List.drop_eq_getElem_cons hi, List.zipIdx_cons, List.foldl_cons]

end Go.Proofs.Ytihhnicfkeiglaa.Mix
