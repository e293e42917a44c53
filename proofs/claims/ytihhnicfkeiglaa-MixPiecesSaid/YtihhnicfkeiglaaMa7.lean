/-
  MixPieces: Pieces gives numbers: the outer loop.
-/
import Derived.Test.YtihhnicfkeiglaaMa6
set_option linter.all false
namespace Go.Proofs.Ytihhnicfkeiglaa.Mix
open Go Go.Om

theorem rowAt_of {h : Hp} {k v t sz : Nat} {es : List (List IV)} (hk : h.objs[k]? = some (.row t sz v es)) : Om.rowAt h k v = some (t, sz, es) := by simp [Om.rowAt, hk]

theorem outer_end (s : ByteArray) (i : Nat) (e : AEnv) (h : Hp) (hlt : ¬ i < s.size) (h4 : e 4 = .i i) (h0 : e 0 = .s s) :
    ∃ e', aex F xr xp (.loop f7_b0) e h = some (.exit 0, e', h) ∧ e' 3 = e 3 := by
  refine ⟨upd (upd (upd (upd e (some 11) (.i i)) (some 12) (.s s)) (some 13) (.i s.size)) (some 14) (.b (decide ((i : Int) < s.size))), ?_, by simp [upd_get]⟩
  rw [aex_loop]
  simp only [f7_b0, f7_r3, aex_seq, aex_reg, arun, astep, Opd.ev, upd_get, h4, h0, abin_lss, Option.map_some, Option.bind_some, andThen_nrm]
  simp [upd_get, h4, h0, abin_lss]
  rw [aex_cond (t := decide ((i : Int) < s.size)) (by simp [Opd.ev, upd_get])]
  rw [if_neg (by simp; omega)]
  simp [aex_exit]

theorem outer (s : ByteArray) (hs : s.size ≤ 3000) : ∀ (m i : Nat) (e : AEnv) (h : Hp) (v : Nat) (l : List (BitVec 64)), s.size ≤ i + 8 * m → i ≤ 3000 + 8 → e 4 = .i i → e 0 = .s s → e 3 = .osl 0 v → h.objs[0]? = some (.row 22 1 v (row64 l)) → 0 < l.length → l.length ≤ i + 1 →
    ∃ e' h' v' l', aex F xr xp (.loop f7_b0) e h = some (.exit 0, e', h') ∧ e' 3 = .osl 0 v' ∧ h'.objs[0]? = some (.row 22 1 v' (row64 l')) ∧ 0 < l'.length ∧ l'.length ≤ 4000 := by
  intro m
  induction m with
  | zero =>
    intro i e h v l hm hi h4 h0 h3 hrow hl0 hl1
    obtain ⟨e', h1, h2⟩ := outer_end s i e h (by omega) h4 h0
    exact ⟨e', h, v, l, h1, by rw [h2, h3], hrow, hl0, by omega⟩
  | succ m ih =>
    intro i e h v l hm hi h4 h0 h3 hrow hl0 hl1
    by_cases hlt : i < s.size
    · rw [aex_loop]
      simp [f7_b0, f7_r3, aex_seq, aex_reg, arun, astep, Opd.ev, upd_get, h4, h0, abin_lss]
      rw [aex_cond (t := true) (by simp [Opd.ev, upd_get, hlt])]
      simp [f7_r4, f7_r5, aex_skip, aex_block, aex_seq, aex_reg, arun, astep, Opd.ev, upd_get, lit_0]
      generalize hE : Om.upd _ _ _ = E
      obtain ⟨e1, g1, ⟨q, g2⟩, g3, g4, g5⟩ := inner s i hs (by omega) 8 E h 0#64 (Nat.le_refl _) (by simp [← hE, upd_get]) (by simp [← hE, upd_get]) (by simp [← hE, upd_get, h4]) (by simp [← hE, upd_get, h0])
      have g6 : e1 3 = .osl 0 v := by rw [g5, ← hE]; simp [upd_get, h3]
      clear g5 hE
      have hne : 0 < h.objs.length := (List.getElem?_eq_some_iff.1 hrow).1
      have r1 : Om.rowAt ⟨h.objs ++ [.row 22 1 h.nv [[u64 q]]], h.nv + 1⟩ h.objs.length h.nv = some (22, 1, [[u64 q]]) := by simp [Om.rowAt]
      have r2 : Om.rowAt ⟨h.objs ++ [.row 22 1 h.nv [[u64 q]]], h.nv + 1⟩ 0 v = some (22, 1, row64 l) := rowAt_of (by simp only; rw [List.getElem?_append_left hne]; exact hrow)
      have hlen : (row64 l).length = l.length := by simp [row64]
      have hw : IntKind.wrap .i64 ((i : Int) + 8) = (i : Int) + 8 := wrapi (by omega) (by omega)
      have hcap : l.length + 1 ≤ 2147483648 := by omega
      rw [g1]
      simp [f7_r11, f7_r12, aex_reg, arun, astep, Opd.ev, upd_get, g2, g3, g4, g6, abin_addi, partsI, setParts, cellsOf, isCell, toIVs, elemsOf, r1, r2, appTo, hlen, hcap, hw]
      have hrl : row64 l ++ [[u64 q]] = row64 (l ++ [q]) := by simp [row64]
      rw [hrl]
      generalize hE2 : Om.upd _ _ _ = E2
      obtain ⟨e', h', v', l', a1, a2, a3, a4, a5⟩ := ih (i + 8) E2 ⟨(h.objs ++ [Om.Obj.row 22 1 h.nv [[u64 q]]]).set 0 (Om.Obj.row 22 1 (h.nv + 1) (row64 (l ++ [q]))), h.nv + 1 + 1⟩ (h.nv + 1) (l ++ [q]) (by omega) (by omega) (by simp [← hE2, upd_get]) (by simp [← hE2, upd_get, g4]) (by simp [← hE2, upd_get]) (by simp) (by simp) (by simp; omega)
      simp only [f7_b0, f7_r3, f7_r4, f7_r5, f7_r11, f7_r12] at a1
      exact ⟨e', h', by simpa [lit_0] using a1, v', a2, l', a3, a4, a5⟩
    · obtain ⟨e', h1, h2⟩ := outer_end s i e h hlt h4 h0
      exact ⟨e', h, v, l, h1, by rw [h2, h3], hrow, hl0, by omega⟩

theorem pieces_ac (s : ByteArray) (hs : s.size ≤ 3000) : ∃ l : List (BitVec 64), 0 < l.length ∧ l.length ≤ 4000 ∧ ac F xr xp 7 [.s s] ⟨[], 0⟩ = some (.iv (.sl (row64 l)), ⟨[], 0⟩) := by
  rw [ac_fn rfl rfl]
  simp [f7, f7_c, f7_r0, f7_r1, f7_r2, aex_seq, aex_reg, aex_block, arun, astep, Opd.ev, upd_get, startEnv, wrap_len, partsI, setParts, cellsOf, isCell, toIVs]
  generalize hE : Om.upd _ _ _ = E
  obtain ⟨e', h', v', l', a1, a2, a3, a4, a5⟩ := outer s hs 3000 0 E ⟨[.row 22 1 0 [[u64 (BitVec.ofNat 64 s.size)]]], 1⟩ 0 [BitVec.ofNat 64 s.size] (by omega) (by omega) (by simp [← hE, upd_get]) (by simp [← hE, upd_get, startEnv]) (by simp [← hE, upd_get]) (by simp [row64]) (by simp) (by simp)
  refine ⟨l', a4, a5, ?_⟩
  rw [a1]
  simp [f7_r13, arun, astep, aex_seq, aex_reg, aex_ret, Opd.ev, upd_get, a2, a3, finR_ret, aresult, aress, ares, finish, fin, finT, finC, rowsOut, bxOk]
end Go.Proofs.Ytihhnicfkeiglaa.Mix
