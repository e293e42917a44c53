/-
  MixPieces: the law's own function gives true.
-/
import Derived.Test.YtihhnicfkeiglaaMb4
set_option linter.all false
namespace Go.Proofs.Ytihhnicfkeiglaa.Mix
open Go Go.Om

theorem abin_remu (a : BitVec 64) (n : Nat) (hn : 0 < n) : abin .rem (u64 a) (.int .u64 n) = some (.int .u64 ((a.toNat % n : Nat) : Int)) := by
  unfold u64
  simp only [abin, if_true]
  rw [if_neg (by omega)]
  rfl
theorem wrapu {n : Nat} (h : n ≤ 4000) : IntKind.wrap .u64 (n : Int) = n := by
  rw [wrap64, Nat.mod_eq_of_lt (by omega)]
theorem wrapi' {n : Nat} (h : n ≤ 4000) : IntKind.wrap .i64 (n : Int) = n := wrapi (by omega) (by omega)
theorem call_pieces {h : Hp} {s : ByteArray} {l : List (BitVec 64)} (hl : ac F xr xp 7 [.s s] ⟨[], 0⟩ = some (.iv (.sl (row64 l)), ⟨[], 0⟩)) : callV xr (ac F xr xp) false (.fn 7 []) [.s s] h = some (.iv (.sl (row64 l)), h) :=
  callV_tree (vs' := [.s s]) (l := false) rfl hl (by simp) (by simp)

theorem abin_equ (a b : BitVec 64) : abin .eql (u64 a) (u64 b) = some (.bool (decide (a = b))) := by
  unfold u64
  simp only [abin, if_true]
  congr 2
  rw [Bool.eq_iff_iff]
  simp only [beq_iff_eq, decide_eq_true_eq, Int.natCast_inj]
  exact BitVec.toNat_inj
theorem call_fold {h : Hp} {x : BitVec 64} {l : List (BitVec 64)} (hl : l.length ≤ 4000) : callV xr (ac F xr xp) false (.fn 8 []) [.iv (u64 x), .iv (.sl (row64 l))] h = some (.iv (u64 (foldB x l)), h) :=
  callV_tree (vs' := [.iv (u64 x), .iv (.sl (row64 l))]) (l := false) rfl (fold_ac x l (by omega)) (by simp) (by simp)
theorem call_fold_row {h : Hp} {x : BitVec 64} {l : List (BitVec 64)} {k v : Nat} (hr : Om.rowAt h k v = some (22, 1, row64 l)) (hl : l.length ≤ 4000) : callV xr (ac F xr xp) false (.fn 8 []) [.iv (u64 x), .osl k v] h = some (.iv (u64 (foldB x l)), h) :=
  callV_tree (vs' := [.iv (u64 x), .iv (.sl (row64 l))]) (l := true) (by simp [argTs, argT, argC, elemsOf, hr]) (fold_ac x l (by omega)) (by intro _; rfl) (by simp)

theorem law_r7 (sd x0 x1 : BitVec 64) (s : ByteArray) (l l2 : List (BitVec 64)) (k : Nat) (hk : k < l.length) (hk2 : k < l2.length) (hl1 : l.length ≤ 4000) (hl2 : l2.length ≤ 4000) (E : AEnv) (h : Hp) (hh : h = ⟨[.box 23 0 [.iv (u64 x0), .iv (u64 x1)], .row 22 1 2 (row64 l2)], 3⟩) (e0 : E 0 = .iv (u64 sd)) (e1 : E 1 = .s s) (e5 : E 5 = .ptr 0 0 0 0) (e7 : E 7 = .iv (.sl (row64 l))) (e8 : E 8 = .osl 1 2) (e9 : E 9 = .i k) :
    ∃ e', aex F xr xp (.regD [0, 0, 3, 0, 0, 31, 63, 0, 0, 384, 896, 0, 0, 6144, 14336, 32640, 65535] f3_r7) E h = some (.nrm, e', h) ∧ e' 49 = .b !((decide (foldB sd l = foldB sd l2)) == decide (l2[k] = l[k])) ∧ e' 0 = .iv (u64 sd) ∧ e' 1 = .s s ∧ e' 5 = .ptr 0 0 0 0 := by
  have r1 : Om.rowAt h 1 2 = some (22, 1, row64 l2) := by rw [hh]; rfl
  have c1 := call_fold_row (h := h) (x := sd) r1 hl2
  have c2 := call_fold (h := h) (x := sd) hl1
  have hlen : (row64 l).length = l.length := by simp [row64]
  have hlen2 : (row64 l2).length = l2.length := by simp [row64]
  have g1 : (row64 l)[k]? = some [u64 l[k]] := by simp [row64, hk]
  have g2 : (row64 l2)[k]? = some [u64 l2[k]] := by simp [row64, hk2]
  have c3 : cellsAt h 1 2 k = some [.iv (u64 l2[k])] := by rw [hh]; simp [cellsAt, g2]
  clear hh
  simp [aex_regD, arunD, f3_r7, arunF, astep, Opd.ev, upd_get, upd_none, e0, e1, e5, e7, e8, e9, c1, c2, c3, r1, hk2, hlen2, g1, aint, abin_equ, lookOf, touch, AI.heap, foot, AI.cls, AI.opds, refs, refs1, putNe, modOf, apartOk, told, bit, meet]

def bytesL (bs : List UInt8) : List (List IV) := bs.map fun c => [.int .u8 c.toNat]
theorem bytesIV_L (s : ByteArray) : bytesIV s = bytesL s.data.toList := rfl
theorem bytesOf_L (bs : List UInt8) : bytesOfIV (bytesL bs) = some bs := by
  induction bs with
  | nil => rfl
  | cons c bs ih =>
    show (bytesOfIV (bytesL bs)).map _ = _
    rw [ih]
    simp
theorem call_text {h : Hp} {x : BitVec 64} {s : ByteArray} (hs : s.size ≤ 3000) : callV xr (ac F xr xp) false (.fn 9 []) [.iv (u64 x), .iv (.str s)] h = some (.iv (u64 (foldB x (textB s.data.toList))), h) :=
  callV_tree (vs' := [.iv (u64 x), .s s]) (l := false) rfl (text_ac x s hs) (by simp) (by simp)
theorem abin_eq8 (a b : UInt8) : abin .eql (.int .u8 a.toNat) (.int .u8 b.toNat) = some (.bool (decide (a = b))) := by
  simp only [abin, if_true]
  congr 2
  rw [Bool.eq_iff_iff]
  simp only [beq_iff_eq, decide_eq_true_eq, Int.natCast_inj]
  exact UInt8.toNat_inj
theorem wrap8 (x : BitVec 64) : IntKind.wrap .u8 (x.toNat : Int) = ((UInt8.ofNat x.toNat).toNat : Int) := by
  simp [IntKind.wrap, IntKind.bits, IntKind.signed]

theorem law_r14 (sd : BitVec 64) (s : ByteArray) (hs : s.size ≤ 3000) (i : Nat) (hi : i < s.data.toList.length) (c : UInt8) (E : AEnv) (h : Hp) (r1 : Om.rowAt h 2 3 = some (4294967301, 1, bytesL (s.data.toList.set i c))) (e0 : E 0 = .iv (u64 sd)) (e1 : E 1 = .s s) (e10 : E 10 = .i i) (e11 : E 11 = .osl 2 3) :
    ∃ e', aex F xr xp (.regD [0, 0, 2, 7, 0, 0, 63, 127, 0, 0, 768, 1792, 0, 0, 12288, 32512, 65535, 131071, 262143, 524287, 1048575] f3_r14) E h = some (.nrm, e', h) ∧ e' 6 = .b true := by
  have c1 := call_text (h := h) (x := sd) hs
  have c2 := call_text (h := h) (x := sd) (s := ⟨(s.data.toList.set i c).toArray⟩) (by show (s.data.toList.set i c).toArray.size ≤ 3000; rw [List.size_toArray, List.length_set]; exact hs)
  have hlen2 : (bytesL (s.data.toList.set i c)).length = s.data.toList.length := by simp [bytesL]
  have g2 : (bytesL (s.data.toList.set i c))[i]? = some [.int .u8 c.toNat] := by
    rw [bytesL, List.getElem?_map, List.getElem?_set_self hi]; rfl
  have g1 : s.data[i]? = some s.data.toList[i] := by simp
  have c3 : cellsAt h 2 3 i = some [.iv (.int .u8 c.toNat)] := by
    simp only [Om.rowAt] at r1
    unfold cellsAt
    cases ho : h.objs[2]? with
    | none => rw [ho] at r1; simp at r1
    | some o =>
      rw [ho] at r1
      cases o with
      | row t sz v es =>
        simp only at r1 ⊢
        split at r1
        · rename_i hv; simp only [Option.some.injEq, Prod.mk.injEq] at r1; obtain ⟨-, -, rfl⟩ := r1; rw [if_pos hv, g2]; rfl
        · simp at r1
      | _ => simp at r1
  have ht := text_set sd s.data.toList i hi c
  have hi' : i < s.data.toList.length := hi
  have hi2 : i < s.data.size := by simpa using hi
  have hi3 : i < s.size := hi
  simp only [Array.getElem_toList] at ht g1
  have hb := bytesOf_L (s.data.toList.set i c)
  generalize hss : s.data.toList.set i c = bs at *
  simp [aex_regD, arunD, f3_r14, arunF, astep, Opd.ev, upd_get, upd_none, e0, e1, e10, e11, c1, c2, c3, r1, hi, hi', hi2, hi3, hlen2, g1, aint, abin_equ, abin_eq8, elemsOf, hb, ht, call_awake, lookOf, touch, AI.heap, foot, AI.cls, AI.opds, refs, refs1, putNe, modOf, apartOk, told, bit, meet]


theorem law_ac (sd : BitVec 64) (s : ByteArray) (x0 x1 : BitVec 64) : ac F xr xp 3 [.iv (u64 sd), .s s, .agg [.iv (u64 x0), .iv (u64 x1)]] ⟨[], 0⟩ = some (.b true, ⟨[], 0⟩) := by
  rw [ac_fn rfl rfl]
  show finR f3 0 (aex F xr xp f3_c (startEnv [.iv (u64 sd), .s s, .agg [.iv (u64 x0), .iv (u64 x1)]]) ⟨[], 0⟩) = _
  simp [f3_c, f3_r0, f3_r1, aex_seq, aex_reg, aex_block, arun, astep, Opd.ev, upd_get, startEnv, cellsOf, isCell, abin_gtr]
  rw [aex_cond (t := decide ((s.size : Int) > 3000)) (by simp [Opd.ev, upd_get])]
  by_cases hs : s.size ≤ 3000
  · rw [if_neg (by simp; omega)]
    obtain ⟨l, hl0, hl1, hl⟩ := pieces_ac s hs
    have hlen : (row64 l).length = l.length := by simp [row64]
    have hcap : l.length ≤ 2147483648 := by omega
    have hone : (∀ (x : List IV), x ∈ row64 l → x.length = 1) = True := by simp [row64]
    have hel : (row64 l)[x0.toNat % l.length]'(by rw [hlen]; exact Nat.mod_lt _ hl0) = [u64 (l[x0.toNat % l.length]'(Nat.mod_lt _ hl0))] := by simp [row64]
    have hk : x0.toNat % l.length < l.length := Nat.mod_lt _ hl0
    simp [f3_r3, f3_r4, f3_r5, f3_r6, aex_seq, aex_skip, aex_reg, aex_block, arun, astep, Opd.ev, upd_get, upd_none, startEnv, cellsOf, isCell, call_pieces hl, cellsAt, partsI, setParts, elemsOf, Om.rowAt, appTo, hlen, wrapu hl1, abin_remu x0 l.length hl0, wrapi' (n := x0.toNat % l.length) (by omega), aint, toIVs, splice, hk, hcap, hone, hel, -Int.natCast_emod]
    generalize hE : Om.upd _ _ _ = E
    have e0 : E 0 = .iv (u64 sd) := by simp [← hE, upd_get, startEnv]
    have e1 : E 1 = .s s := by simp [← hE, upd_get, startEnv]
    have e5 : E 5 = .ptr 0 0 0 0 := by simp [← hE, upd_get]
    have e7 : E 7 = .iv (.sl (row64 l)) := by simp [← hE, upd_get]
    have e8 : E 8 = .osl 1 2 := by simp [← hE, upd_get]
    have e9 : E 9 = .i (x0.toNat % l.length : Nat) := by simp [← hE, upd_get]
    clear hE
    have hset : (row64 l).set (x0.toNat % l.length) [u64 x1] = row64 (l.set (x0.toNat % l.length) x1) := by simp [row64, List.map_set]
    rw [hset]
    obtain ⟨e2, a1, a2, a3, a4, a5⟩ := law_r7 sd x0 x1 s l (l.set (x0.toNat % l.length) x1) (x0.toNat % l.length) hk (by rw [List.length_set]; exact hk) hl1 (by rw [List.length_set]; exact hl1) E _ rfl e0 e1 e5 e7 e8 e9
    have ht : (!(decide (foldB sd l = foldB sd (l.set (x0.toNat % l.length) x1)) == decide ((l.set (x0.toNat % l.length) x1)[x0.toNat % l.length]'(by rw [List.length_set]; exact hk) = l[x0.toNat % l.length]))) = false := by
      have := fold_set sd l (x0.toNat % l.length) hk x1
      rw [List.getElem_set_self]
      rw [eq_comm] at this
      simp [this]
    rw [ht] at a2
    rw [a1]
    generalize (l.set (x0.toNat % l.length) x1) = l2
    simp only [andThen_nrm]
    rw [aex_cond (t := false) (by simp [Opd.ev, a2])]
    clear hel hset ht
    simp [aex_skip, aex_seq, f3_r9, aex_reg, arun, astep, Opd.ev, upd_get, a4, abin_eql0]
    rw [aex_cond (t := decide (s.size = 0)) (by simp [Opd.ev, upd_get])]
    by_cases hz : s.size = 0
    · simp [hz, f3_r10, f3, aex_seq, aex_reg, aex_block, arun, astep, Opd.ev, upd_get, startEnv, call_awake, aex_ret, finR_ret, aresult, aress, ares, finish, fin, finT, finC, rowsOut, bxOk]
    · have hi : x0.toNat % s.size < s.size := Nat.mod_lt _ (by omega)
      have hcap2 : s.size ≤ 2147483648 := by omega
      have hbl : (bytesIV s).length = s.size := by simp [bytesIV]
      have hx1 : u64 x1 = .int .u64 x1.toNat := rfl
      have hw := wrap8 x1
      have hel : (bytesIV s)[x0.toNat % s.size]'(by rw [hbl]; exact hi) = [.int .u8 (s.data.toList[x0.toNat % s.size]'hi).toNat] := by simp [bytesIV]
      simp [hz, aex_skip, f3_r11, f3_r12, f3_r13, aex_seq, aex_reg, arun, astep, Opd.ev, upd_get, upd_none, a3, a4, a5, cellsAt, aint, wrapu (n := s.size) (by omega), abin_remu x0 s.size (by omega), wrapi' (n := x0.toNat % s.size) (by omega), Om.rowAt, cellsOf, isCell, toIVs, splice, hi, hcap2, hbl, hx1, hw, hel, -Int.natCast_emod]
      have hrow : (bytesIV s).set (x0.toNat % s.size) [IV.int .u8 ((x1.toNat % 256 : Nat) : Int)] = bytesL (s.data.toList.set (x0.toNat % s.size) (UInt8.ofNat x1.toNat)) := by
        rw [bytesIV_L, bytesL, bytesL, List.map_set]
        simp

      rw [hrow]
      generalize hE : Om.upd _ _ _ = E2
      obtain ⟨e3, b1, b2⟩ := law_r14 sd s hs (x0.toNat % s.size) hi (UInt8.ofNat x1.toNat) E2 ⟨[.box 23 0 [.iv (u64 x0), .iv (.int .u64 x1.toNat)], .row 22 1 2 (row64 l2), .row 4294967301 1 3 (bytesL (s.data.toList.set (x0.toNat % s.size) (UInt8.ofNat x1.toNat)))], 4⟩ rfl (by simp [← hE, upd_get, a3]) (by simp [← hE, upd_get, a4]) (by simp [← hE, upd_get]) (by simp [← hE, upd_get])
      rw [b1]
      simp [f3, aex_ret, b2, finR_ret, aresult, aress, ares, finish, fin, finT, finC, rowsOut, bxOk]
  · rw [if_pos (by simp; omega)]
    simp [f3, f3_r2, aex_seq, aex_reg, aex_block, arun, astep, Opd.ev, upd_get, startEnv, call_awake, aex_ret, finR_ret, aresult, aress, ares, finish, fin, finT, finC, rowsOut, bxOk]
end Go.Proofs.Ytihhnicfkeiglaa.Mix
