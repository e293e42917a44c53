/-
  MixPieces: the loop of Text, and Text.
-/
import Derived.Test.YtihhnicfkeiglaaMb1
import Derived.Test.YtihhnicfkeiglaaMb2
set_option linter.all false
namespace Go.Proofs.Ytihhnicfkeiglaa.Mix
open Go Go.Om

theorem r56 (i : Nat) (e : AEnv) (h : Hp) (v : Nat) (l : List (BitVec 64)) (h5 : e 5 = .osl 0 v) (h18 : e 18 = .b (decide (i % 8 = 0))) (hrow : h.objs[0]? = some (.row 22 1 v (row64 l))) (hl1 : l.length ≤ 4000) :
    ∃ e' h' v', aex F xr xp (.cond (.tmp 18) (.reg f9_r6) .skip) e h = some (.nrm, e', h') ∧ e' 5 = .osl 0 v' ∧ h'.objs[0]? = some (.row 22 1 v' (row64 (if i % 8 = 0 then l ++ [0#64] else l))) ∧ e' 0 = e 0 ∧ e' 12 = e 12 ∧ e' 13 = e 13 ∧ e' 1 = e 1 ∧ e' 6 = e 6 := by
  rw [aex_cond (t := decide (i % 8 = 0)) (by simpa [Opd.ev] using h18)]
  by_cases hm : i % 8 = 0
  · simp only [hm, decide_true, if_true]
    exact r6 e h v l h5 hrow hl1
  · simp only [hm, decide_false, if_false]
    exact ⟨e, h, v, aex_skip, h5, hrow, rfl, rfl, rfl, rfl, rfl⟩

theorem putB_row (l : List (BitVec 64)) (i : Nat) (c : UInt8) : row64 (putB l i c) = (row64 (if i % 8 = 0 then l ++ [0#64] else l)).set ((if i % 8 = 0 then l ++ [0#64] else l).length - 1) [u64 ((if i % 8 = 0 then l ++ [0#64] else l).getD ((if i % 8 = 0 then l ++ [0#64] else l).length - 1) 0 ||| (BitVec.ofNat 64 c.toNat <<< (8 * (i % 8))))] := by
  simp [row64, putB, List.map_set]
theorem putB_len (l : List (BitVec 64)) (i : Nat) (c : UInt8) : (putB l i c).length = l.length + (if i % 8 = 0 then 1 else 0) := by
  simp only [putB, List.length_set]
  split <;> simp

theorem text_loop (s : ByteArray) (hs : s.size ≤ 3000) : ∀ (m i : Nat) (e : AEnv) (h : Hp) (v : Nat) (l : List (BitVec 64)), i + m = s.size → e 13 = .i i → e 12 = .i s.size → e 1 = .s s → e 5 = .osl 0 v → h.objs[0]? = some (.row 22 1 v (row64 l)) → 0 < l.length → l.length ≤ i + 1 →
    ∃ e' h' v', aex F xr xp (.loop f9_b0) e h = some (.exit 0, e', h') ∧ e' 5 = .osl 0 v' ∧ e' 0 = e 0 ∧ h'.objs[0]? = some (.row 22 1 v' (row64 (((s.data.toList.drop i).zipIdx i).foldl (fun l p => putB l p.2 p.1) l))) := by
  intro m
  induction m with
  | zero =>
    intro i e h v l him h13 h12 h1 h5 hrow hl0 hl1
    refine ⟨upd e (some 14) (.b (decide ((i : Int) < s.size))), h, v, ?_, by simp [upd_get, h5], by simp [upd_get], ?_⟩
    · rw [aex_loop]
      simp only [f9_b0, f9_r3, aex_seq, aex_reg, arun, astep, Opd.ev, h13, h12, abin_lss, Option.map_some, Option.bind_some, andThen_nrm]
      rw [aex_cond (t := decide ((i : Int) < s.size)) (by simp [Opd.ev, upd_get])]
      rw [if_neg (by simp; omega)]
      simp only [aex_exit, andThen_exit]
    · have : s.data.toList.drop i = [] := List.drop_eq_nil_of_le (by show s.data.toList.length ≤ i; have : s.data.toList.length = s.size := rfl; omega)
      rw [this]
      exact hrow
  | succ m ih =>
    intro i e h v l him h13 h12 h1 h5 hrow hl0 hl1
    have hlen : s.data.toList.length = s.size := rfl
    have hi : i < s.data.toList.length := by omega
    have hwrap : IntKind.wrap .i64 ((i : Int) + 1) = ((i + 1 : Nat) : Int) := by rw [wrapi (by omega) (by omega)]; rfl
    rw [aex_loop_of f9_b0.eq_1]
    simp [f9_r3, aex_seq, aex_reg, arun, astep, Opd.ev, upd_get, h13, h12, abin_lss]
    rw [aex_cond (t := true) (by simp [Opd.ev, upd_get]; omega)]
    simp [f9_r4, f9_r5, aex_skip, aex_block, aex_seq, aex_reg, arun, astep, Opd.ev, upd_get, h13, abin_rem8, abin_eql0, -Int.natCast_emod]
    generalize hE : Om.upd _ _ _ = E
    obtain ⟨e1, h1', v1, a1, a2, a3, a4, a5, a6, a7, a8⟩ := r56 i E h v l (by simp [← hE, upd_get, h5]) (by simp [← hE, upd_get]) hrow (by omega)
    rw [a1]
    have b1 : e1 1 = .s s := by rw [a7, ← hE]; simp [upd_get, h1]
    have b6 : e1 6 = .i i := by rw [a8, ← hE]; simp [upd_get]
    have b12 : e1 12 = .i s.size := by rw [a5, ← hE]; simp [upd_get, h12]
    have b13 : e1 13 = .i i := by rw [a6, ← hE]; simp [upd_get, h13]
    have b0 : e1 0 = e 0 := by rw [a4, ← hE]; simp [upd_get]
    clear hE a4 a5 a6 a7 a8
    have hl0' : 0 < (if i % 8 = 0 then l ++ [0#64] else l).length := by
      split
      · rw [List.length_append]; omega
      · omega
    have hl1' : (if i % 8 = 0 then l ++ [0#64] else l).length ≤ 4000 := by
      split
      · rw [List.length_append, List.length_singleton]; omega
      · omega
    obtain ⟨e2, c1, c2, c3, c4, c5, c6⟩ := r7 s i e1 h1' v1 (if i % 8 = 0 then l ++ [0#64] else l) (s.data.toList[i]) ((if i % 8 = 0 then l ++ [0#64] else l).getD ((if i % 8 = 0 then l ++ [0#64] else l).length - 1) 0) (by omega) a2 b1 b6 a3 hl0' hl1' (by simp) (by
      rw [row64, List.getElem?_map, List.getElem?_eq_getElem (by omega), List.getD_eq_getElem?_getD, List.getElem?_eq_getElem (by omega)]; rfl)
    rw [← putB_row] at c1
    simp only [andThen_nrm, aex_regD, c1, Option.map_some, inBlock_nrm]
    simp [f9_r8, aex_reg, arun, astep, Opd.ev, upd_get, c5, b13, abin_addi, hwrap]
    generalize hE2 : Om.upd _ _ _ = E2
    have hne : 0 < h1'.objs.length := (List.getElem?_eq_some_iff.1 a3).1
    obtain ⟨e', h', v', d1, d2, d3, d4⟩ := ih (i + 1) E2 ⟨h1'.objs.set 0 (.row 22 1 v1 (row64 (putB l i s.data.toList[i]))), h1'.nv⟩ v1 (putB l i s.data.toList[i]) (by omega) (by simp [← hE2, upd_get]) (by simp [← hE2, upd_get, c4, b12]) (by simp [← hE2, upd_get, c6]) (by simp [← hE2, upd_get, c2]) (by simp [hne]) (by rw [putB_len]; omega) (by rw [putB_len]; split <;> omega)
    refine ⟨e', h', d1, v', d2, ?_, ?_⟩
    · rw [d3, ← hE2]; simp [upd_get, c3, b0]
    · rw [List.drop_eq_getElem_cons hi, List.zipIdx_cons, List.foldl_cons]
      exact d4

theorem textB_len (bs : List UInt8) : (textB bs).length ≤ bs.length + 1 := by
  have h : ∀ (bs : List UInt8) (i : Nat) (l : List (BitVec 64)), ((bs.zipIdx i).foldl (fun l p => putB l p.2 p.1) l).length ≤ l.length + bs.length := by
    intro bs
    induction bs with
    | nil => intro i l; simp
    | cons b bs ih =>
      intro i l
      rw [List.zipIdx_cons, List.foldl_cons]
      have := ih (i + 1) (putB l i b)
      rw [putB_len] at this
      simp only [List.length_cons]
      split at this <;> omega
  have := h bs 0 [BitVec.ofNat 64 bs.length]
  simp only [textB]
  simp only [List.length_cons, List.length_nil] at this
  omega

theorem text_ac (x : BitVec 64) (s : ByteArray) (hs : s.size ≤ 3000) : ac F xr xp 9 [.iv (u64 x), .s s] ⟨[], 0⟩ = some (.iv (u64 (foldB x (textB s.data.toList))), ⟨[], 0⟩) := by
  have hlen : s.data.toList.length = s.size := rfl
  have htl := textB_len s.data.toList
  have hcall : ∀ h : Hp, ∀ v : Nat, h.objs[0]? = some (.row 22 1 v (row64 (textB s.data.toList))) → callV xr (ac F xr xp) false (.fn 8 []) [.iv (u64 x), .osl 0 v] h = some (.iv (u64 (foldB x (textB s.data.toList))), h) := by
    intro h v hr
    refine callV_tree (vs' := [.iv (u64 x), .iv (.sl (row64 (textB s.data.toList)))]) (l := true) ?_ (fold_ac x _ (by omega)) (by intro _; rfl) (by simp)
    simp [argTs, argT, argC, elemsOf, rowAt_of hr]
  rw [ac_fn rfl rfl]
  simp [f9, f9_c, f9_r0, f9_r1, f9_r2, aex_seq, aex_reg, aex_block, arun, astep, Opd.ev, upd_get, startEnv, wrap_len, partsI, setParts, cellsOf, isCell, toIVs]
  generalize hE : Om.upd _ _ _ = E
  obtain ⟨e', h', v', a1, a2, a3, a4⟩ := text_loop s hs s.size 0 E ⟨[.row 22 1 0 [[u64 (BitVec.ofNat 64 s.size)]]], 1⟩ 0 [BitVec.ofNat 64 s.size] (by omega) (by simp [← hE, upd_get]) (by simp [← hE, upd_get, startEnv]) (by simp [← hE, upd_get, startEnv]) (by simp [← hE, upd_get]) (by simp [row64]) (by simp) (by simp)
  have ha0 : e' 0 = .iv (u64 x) := by rw [a3, ← hE]; simp [upd_get, startEnv]
  have h8 := hcall h' v' a4
  rw [a1]
  simp [f9_r9, arun, astep, aex_seq, aex_reg, aex_ret, Opd.ev, upd_get, a2, ha0, h8, finR_ret, aresult, aress, ares, finish, fin, finT, finC, rowsOut, bxOk]
end Go.Proofs.Ytihhnicfkeiglaa.Mix
