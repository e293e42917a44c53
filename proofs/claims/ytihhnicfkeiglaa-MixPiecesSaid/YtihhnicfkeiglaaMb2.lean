/-
  MixPieces: one region of Text: a new piece.
-/
import Derived.Test.YtihhnicfkeiglaaMa8
set_option linter.all false
namespace Go.Proofs.Ytihhnicfkeiglaa.Mix
open Go Go.Om
theorem r6 (e : AEnv) (h : Hp) (v : Nat) (l : List (BitVec 64)) (h5 : e 5 = .osl 0 v) (hrow : h.objs[0]? = some (.row 22 1 v (row64 l))) (hl1 : l.length ≤ 4000) :
    ∃ e' h' v', aex F xr xp (.reg f9_r6) e h = some (.nrm, e', h') ∧ e' 5 = .osl 0 v' ∧ h'.objs[0]? = some (.row 22 1 v' (row64 (l ++ [0#64]))) ∧ e' 0 = e 0 ∧ e' 12 = e 12 ∧ e' 13 = e 13 ∧ e' 1 = e 1 ∧ e' 6 = e 6 := by
  have hne : 0 < h.objs.length := (List.getElem?_eq_some_iff.1 hrow).1
  have r1 : Om.rowAt ⟨h.objs ++ [.row 22 1 h.nv [[u64 0#64]]], h.nv + 1⟩ h.objs.length h.nv = some (22, 1, [[u64 0#64]]) := by simp [Om.rowAt]
  have r2 : Om.rowAt ⟨h.objs ++ [.row 22 1 h.nv [[u64 0#64]]], h.nv + 1⟩ 0 v = some (22, 1, row64 l) := rowAt_of (by simp only; rw [List.getElem?_append_left hne]; exact hrow)
  have hlen : (row64 l).length = l.length := by simp [row64]
  have hcap : l.length + 1 ≤ 2147483648 := by omega
  have hrl : row64 l ++ [[u64 0#64]] = row64 (l ++ [0#64]) := by simp [row64]
  simp [f9_r6, aex_reg, arun, astep, Opd.ev, upd_get, h5, lit_0, partsI, setParts, cellsOf, isCell, toIVs, elemsOf, r1, r2, appTo, hlen, hcap, hrl]
  refine ⟨_, _, ⟨rfl, rfl⟩, h.nv + 1, ?_⟩
  simp [upd_get]
end Go.Proofs.Ytihhnicfkeiglaa.Mix
