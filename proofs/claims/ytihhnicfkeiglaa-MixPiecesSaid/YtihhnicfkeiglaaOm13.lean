/-
  Om: makes, strings out of bytes, lengths, least and greatest.
-/
import Derived.Test.YtihhnicfkeiglaaOm12
set_option linter.all false
namespace Go.Om
open Go Go.RowKit

section
variable {hh : Nat} {P : Program} {X : Nat → Prop} {w w' : World} {C C' : Conc} {h h' : Hp} {v : AV} {u : Value} {K mod : List Nat} {ρ : Operand → Value} {e : AEnv} {o : Oper} {S : Nat → Prop} {nv : Nat}

theorem sameOpd_eq {l c : Operand} (h : sameOpd l c = true) : ρ l = ρ c := by
  unfold sameOpd at h
  split at h
  · simp at h; rw [h]
  · simp at h; rw [h]
  · simp at h

theorem sound_mslice {t el n bts : Nat} {l c : Operand} {l' : Opd} {zs : List IV} {q : Int} (ho : o.op = .makeSlice t l c) (ht : P.underlying t = some (.slice el)) (hn : tsz P el = some n) (hby : tby P el = some bts) (hn0 : n ≠ 0) (hb4 : bts ≤ 4096) (hz : tzeroI P el = some zs) (hzl : zs.length = n)
    (hsame : sameOpd l c = true) (hl : cOpd l = some l') (hq : l'.ev e = .iv (.int .i64 q)) (hel : el < 4294967296) (h0 : 0 ≤ q) (hle : q ≤ 1073741824) (hρ : Opds X ρ w C h (.mslice el n zs l') e) (pre : Pre X w C h K (h.objs.length + 1)) :
    Concl P X ρ o w C h (.mslice el n zs l') e (.osl h.objs.length h.nv) ⟨h.objs ++ [.row el n h.nv (List.replicate q.toNat zs)], h.nv + 1⟩ := by
  obtain ⟨i, z, hi, hin, hiz, hzs, hzi⟩ := elem_info hn hz hzl
  have hpos : 0 < n := Nat.pos_of_ne_zero hn0
  have hib : i.bytes ≤ 4096 := by
    unfold tby at hby
    rw [hi] at hby
    simp at hby
    omega
  have hr0 := rowRel_zero (w := w) (S := Shut X C) (len := q.toNat) hzi hzs hpos
  have hlr := hρ l l' hl (by simp [AI.opds])
  rw [hq] at hlr
  have hul := hlr.inv_iv.inv_int
  have huc : ρ c = .int .i64 q := by rw [← sameOpd_eq (ρ := ρ) hsame]; exact hul
  have hbytes : (i.bytes : Int) * q ≤ 281474976710656 := by
    have h1 : (i.bytes : Int) * q ≤ 4096 * 1073741824 := Int.mul_le_mul (by omega) hle h0 (by omega)
    omega
  have hrun := run_make (P := P) w t el i z ht hi hiz .i64 .i64 q q h0 (Int.le_refl _) hbytes (by omega)
  rw [hin] at hrun
  have hlen : (List.replicate q.toNat zs).length = q.toNat := by simp
  have R := Res.newRow (X := X) (es := List.replicate q.toNat zs) (us := ((Array.range (q.toNat * n)).map fun i => z.cells[i % z.cells.size]!).toList) pre el n hel hpos (extra := []) q.toNat hr0 (by simp) (by simp) (by simp only [maxLen]; omega) (by simp)
  rw [hlen] at R
  refine ⟨_, _, _, .inl ?_, R⟩
  simp only [List.append_nil, Array.toArray_toList] at R ⊢
  simp [execOp, ho, hul, huc, hrun, madeCells]

theorem sound_appz {c : Call} {t tx el n bts : Nat} {k0 : IntKind} {s x : Operand} {s' x' : Opd} {zs : List IV} {q : Int} {k ver : Nat} {es : List (List IV)} (ho : o.op = .call c) (hb : c.callee = .builtin .append) (hat : c.argTypes.toList = [t, tx]) (har : c.args.toList = [s, x])
    (ht : P.underlying t = some (.slice el)) (htx : P.underlying tx = some (.int k0)) (hn : tsz P el = some n) (hby : tby P el = some bts) (hn0 : n ≠ 0) (hb4 : bts ≤ 4096) (hz : tzeroI P el = some zs) (hzl : zs.length = n) (hs : cOpd s = some s') (hx : cOpd x = some x')
    (hq : x'.ev e = .iv (.int .i64 q)) (h0 : 0 ≤ q) (hse : s'.ev e = .osl k ver) (hrow : rowAt h k ver = some (el, n, es)) (hel : el < 4294967296) (hle : es.length + q.toNat ≤ 1073741824)
    (hρ : Opds X ρ w C h (.appz el n zs s' x') e) (pre : Pre X w C h (foot (.appz el n zs s' x') e) h.objs.length) :
    Concl P X ρ o w C h (.appz el n zs s' x') e (.osl k h.nv) ⟨h.objs.set k (.row el n h.nv (es ++ List.replicate q.toNat zs)), h.nv + 1⟩ := by
  obtain ⟨i, z, hi, hin, hiz, hzs, hzi⟩ := elem_info hn hz hzl
  have hpos : 0 < n := Nat.pos_of_ne_zero hn0
  have hib : i.bytes ≤ 4096 := by
    unfold tby at hby
    rw [hi] at hby
    simp at hby
    omega
  subst hin
  have hr0 := rowRel_zero (w := w) (S := Shut X C) (len := q.toNat) hzi hzs hpos
  have hxr := hρ x x' hx (by simp [AI.opds])
  rw [hq] at hxr
  have hux := hxr.inv_iv.inv_int
  have hrs := hρ s s' hs (by simp [AI.opds])
  have hkf : k ∈ foot (.appz el i.size zs s' x') e := mem_foot (y := s') (by simp [AI.opds]) (by rw [hse]; simp [refs, refs1]) (by simp [AI.cls])
  obtain ⟨hk, hv, _, val, us, hC, hown, hrr⟩ := rowAt_rel hrow (fun o ho => pre.ok k o hkf ho)
  rw [hse] at hrs
  obtain ⟨_, _, co, hco, h3⟩ := hrs.inv_osl
  rw [hC] at hco
  cases hco
  have hval := h3 _ _ rfl
  have hone : ∀ u ∈ z.cells.toList, u.oneCell' = true := by
    intro u hu
    obtain ⟨j, hj⟩ := List.mem_iff_getElem?.1 hu
    have hrel := toIVs_rel hzi (cval1s_rel (w := w) (S := Shut X C) (C := C) (nv := 0) z.cells.toList)
    have hjl : j < zs.length := by rw [hrel.2.1]; exact (List.getElem?_eq_some_iff.1 hj).1
    exact oneCell_IRel (hrel.2.2 j _ u (List.getElem?_eq_getElem hjl) hj)
  obtain ⟨val', w', hrun, a0, a1, a2, a3, a4, a5, a6, a7, a8⟩ := append_ownZ (ty := o.type) (m := q.toNat) ht htx hi hiz hzs hpos ((held_iff hel).2 hown) hone hib (by omega)
  rw [Int.toNat_of_nonneg h0] at hrun
  obtain ⟨ks, hex⟩ := call2 (ρ := ρ) ho hb hat har
  have hvr : RowRel w (Shut X C) i.size (List.replicate q.toNat zs) (Builtin.zeroCells z.cells q.toNat).toList := by
    have : Builtin.zeroCells z.cells q.toNat = (Array.range (q.toNat * i.size)).map fun j => z.cells[j % z.cells.size]! := by simp only [Builtin.zeroCells, hzs]
    rw [this]
    exact hr0
  have hl2 : (List.replicate q.toNat zs).length = q.toNat := by simp
  have a0' : Held w' el i.size val' (es.length + (List.replicate q.toNat zs).length) (us ++ (Builtin.zeroCells z.cells q.toNat).toList) := by rw [hl2]; exact (held_iff hel).1 a0
  exact ⟨val', w', _, .inl (by rw [hex, hval, hux]; simp [builtin, hrun]), app_res hkf rfl hrow pre hC hpos hown hrr hvr a0' a1 a2 a3 a4 a5 a6 a7⟩

theorem bytesOf_get {es : List (List IV)} {l : List UInt8} (hb : bytesOfIV es = some l) : ∃ ns : List Int, es = ns.map (fun n => [.int .u8 n]) ∧ l = ns.map fun n => UInt8.ofNat n.toNat := by
  induction es generalizing l with
  | nil => simp [bytesOfIV] at hb; subst hb; exact ⟨[], rfl, rfl⟩
  | cons d r ih =>
    unfold bytesOfIV at hb
    split at hb
    · rename_i heq; simp at heq
    · rename_i n r' heq
      cases heq
      cases hq : bytesOfIV r with
      | none => rw [hq] at hb; simp at hb
      | some y =>
        rw [hq] at hb
        simp at hb
        subst hb
        obtain ⟨ns, h1, h2⟩ := ih hq
        exact ⟨n :: ns, by rw [h1]; rfl, by rw [h2]; rfl⟩
    · simp at hb

theorem foldl_push (ns : List Int) (s : ByteArray) : ns.foldl (fun r n => r.push (UInt8.ofNat n.toNat)) s = ⟨s.data ++ (ns.map fun n => UInt8.ofNat n.toNat).toArray⟩ := by
  induction ns generalizing s with
  | nil => simp
  | cons n ns ih =>
    rw [List.foldl_cons, ih]
    congr 1
    apply Array.ext'
    simp [ByteArray.push]

theorem sound_cvtBS {sT dT el : Nat} {x : Operand} {x' : Opd} {es : List (List IV)} {l : List UInt8} (ho : o.op = .convert sT dT x) (hsT : P.underlying sT = some (.slice el)) (hel : P.underlying el = some (.int .u8)) (hdT : P.underlying dT = some .string) (hx : cOpd x = some x')
    (hes : elemsOf h (x'.ev e) = some es) (hb : bytesOfIV es = some l) (hρ : Opds X ρ w C h (.cvtBS x') e) (pre : Pre X w C h (foot (.cvtBS x') e) hh) : Concl P X ρ o w C h (.cvtBS x') e (.iv (.str ⟨l.toArray⟩)) h := by
  have hv := elemsOf_rel hes (fun k o hk ho => pre.ok k o (mem_foot (y := x') (by simp [AI.opds]) hk (by simp [AI.cls])) ho) (hρ x x' hx (by simp [AI.opds]))
  obtain ⟨ns, hns, rfl⟩ := bytesOf_get hb
  obtain ⟨a, c, hu, _, h2⟩ := hv
  have hcv := run_convert_bytes_string (P := P) w sT dT el a es.length c hsT hel hdT
  have hfin : (Conv.bytesToString (.slice a es.length c)).run P w = .ok (.string ⟨(ns.map fun n => UInt8.ofNat n.toNat).toArray⟩) w := by
    cases a with
    | none =>
      have h0 : es.length = 0 := by
        rcases h2 with h2 | ⟨b, off, sz, g, hab, _⟩
        · exact h2
        · cases hab
      have : ns = [] := by
        have := congrArg List.length hns
        simp at this
        exact List.eq_nil_of_length_eq_zero (by omega)
      subst this
      simp [Conv.bytesToString]
      rfl
    | some a =>
      have hlc : (loadCells a es.length).run P w = .ok (ns.map (Value.int .u8)).toArray w := by
        have hln : es.length = (ns.map (Value.int .u8)).length := by rw [hns]; simp
        rw [hln]
        refine run_loadCells_list w a _ fun j v hj => ?_
        rcases h2 with h2 | ⟨b, off, sz, g, hab, hsz, hc⟩
        · have : j < ns.length := by have := (List.getElem?_eq_some_iff.1 hj).1; simpa using this
          rw [hns] at h2
          simp at h2
          subst h2
          simp at this
        · cases hab
          rw [List.getElem?_map] at hj
          cases hn : ns[j]? with
          | none => rw [hn] at hj; simp at hj
          | some n =>
            rw [hn] at hj
            simp at hj
            subst hj
            have hd : es[j]? = some [.int .u8 n] := by rw [hns, List.getElem?_map, hn]; rfl
            have h1 := hsz j _ hd
            simp at h1
            subst h1
            obtain ⟨hcell, hr⟩ := hc j _ 0 (.int .u8 n) hd rfl
            rw [hr.inv_int] at hcell
            rw [add_none]
            simpa using hcell
      rw [run_bytesToString w a es.length c ns hlc, foldl_push]
      simp
  exact ⟨_, w, C, .inl (by simp [execOp, ho, hu, hcv, hfin]), Res.pure (.iv (.str _))⟩

theorem sound_len {c : Call} {t el : Nat} {x : Operand} {x' : Opd} {es : List (List IV)} (ho : o.op = .call c) (hb : c.callee = .builtin .len) (hat : c.argTypes.toList = [t]) (har : c.args.toList = [x]) (ht : P.underlying t = some (.slice el)) (hx : cOpd x = some x')
    (hes : elemsOf h (x'.ev e) = some es) (hρ : Opds X ρ w C h (.len x') e) (pre : Pre X w C h (foot (.len x') e) hh) : Concl P X ρ o w C h (.len x') e (.iv (.int .i64 es.length)) h := by
  obtain ⟨a, c', hu, _, _⟩ := elemsOf_rel hes (fun k o hk ho => pre.ok k o (mem_foot (y := x') (by simp [AI.opds]) hk (by simp [AI.cls])) ho) (hρ x x' hx (by simp [AI.opds]))
  obtain ⟨ks, hex⟩ := call1 (ρ := ρ) ho hb hat har
  exact ⟨_, w, C, .inl (by rw [hex, hu]; simp [builtin, Builtin.len_, run_underlying ht, goInt]), Res.pure (.iv (.int _ _))⟩
theorem sound_lenStr {c : Call} {t : Nat} {x : Operand} {x' : Opd} {s : ByteArray} (ho : o.op = .call c) (hb : c.callee = .builtin .len) (hat : c.argTypes.toList = [t]) (har : c.args.toList = [x]) (ht : P.underlying t = some .string) (hx : cOpd x = some x')
    (hes : x'.ev e = .iv (.str s)) (hρ : Opds X ρ w C h (.lenStr x') e) : Concl P X ρ o w C h (.lenStr x') e (.iv (.int .i64 s.size)) h := by
  have hxr := hρ x x' hx (by simp [AI.opds])
  rw [hes] at hxr
  obtain ⟨ks, hex⟩ := call1 (ρ := ρ) ho hb hat har
  exact ⟨_, w, C, .inl (by rw [hex, hxr.inv_iv.inv_str]; simp [builtin, Builtin.len_, run_underlying ht, goInt]), Res.pure (.iv (.int _ _))⟩

theorem mnxs_run {mx : Bool} {a r : AV} {xs : List Opd} {us : List Value} {ua : Value} (hm : mnxs mx e a xs = some r) (ha : ARel w S C nv a ua) (hr : ARels w S C nv (xs.map (·.ev e)) us) :
    ∃ ur, (us.foldlM (if mx then Builtin.max2 else Builtin.min2) ua).run P w = .ok ur w ∧ ARel w S C nv r ur := by
  induction xs generalizing a us ua with
  | nil =>
    simp [mnxs] at hm
    subst hm
    have : us = [] := List.eq_nil_of_length_eq_zero (by rw [← hr.1]; simp)
    subst this
    exact ⟨ua, by simp, ha⟩
  | cons x r' ih =>
    obtain ⟨u, ur, rfl, h1, h2⟩ := hr.uncons
    simp only [mnxs] at hm
    cases hq : mnx1 mx a (x.ev e) with
    | none => rw [hq] at hm; simp at hm
    | some b =>
      rw [hq] at hm
      simp only [Option.bind_some] at hm
      have hb : ∃ ub, ((if mx then Builtin.max2 else Builtin.min2) ua u).run P w = .ok ub w ∧ ARel w S C nv b ub := by
        unfold mnx1 at hq
        split at hq
        · rename_i k n k' m hx
          split at hq
          · rename_i hk
            subst hk
            cases hq
            have h1 : ARel w S C nv (x.ev e) u := h1
            rw [hx] at h1
            rw [ha.inv_iv.inv_int, h1.inv_iv.inv_int]
            cases mx
            · exact ⟨_, by simp [Builtin.min2], .iv (.int _ _)⟩
            · exact ⟨_, by simp [Builtin.max2], .iv (.int _ _)⟩
          · simp at hq
        · simp at hq
      obtain ⟨ub, e1, e2⟩ := hb
      obtain ⟨uc, e3, e4⟩ := ih hm e2 h2
      exact ⟨uc, by rw [List.foldlM_cons, Sem.run_bind, e1]; exact e3, e4⟩
theorem sound_mnx {c : Call} {mx : Bool} {xs : List Operand} {y : Opd} {ys : List Opd} (ho : o.op = .call c) (hb : c.callee = .builtin (if mx then .max else .min)) (har : c.args.toList = xs) (hx : cOpds xs = some (y :: ys)) (hm : mnxs mx e (y.ev e) ys = some v)
    (hρ : Opds X ρ w C h (.mnx mx (y :: ys)) e) : Concl P X ρ o w C h (.mnx mx (y :: ys)) e v h := by
  have hs := opds_rels hx (fun x y h1 h2 => hρ x y h1 (by simpa [AI.opds] using h2))
  simp only [List.map_cons] at hs
  obtain ⟨u, ur, hus, h1, h2⟩ := hs.uncons
  obtain ⟨uc, e3, e4⟩ := mnxs_run (P := P) hm h1 h2
  have hargs : (c.args.map ρ).toList = u :: ur := by rw [Array.toList_map, har, hus]
  refine ⟨uc, w, C, .inl ?_, Res.pure e4⟩
  cases mx
  · simp only [Bool.false_eq_true, if_false] at hb e3
    simp [execOp, ho, resolve, hb, invoke, builtin, Builtin.min_]
    simp at hargs
    simp [hargs, e3]
  · simp only [if_true] at hb e3
    simp [execOp, ho, resolve, hb, invoke, builtin, Builtin.max_]
    simp at hargs
    simp [hargs, e3]
theorem sound_cvtSB {sT dT el : Nat} {x : Operand} {x' : Opd} {s : ByteArray} (ho : o.op = .convert sT dT x) (hs : P.underlying sT = some .string) (hd : P.underlying dT = some (.slice el)) (hel : P.underlying el = some (.int .u8)) (hx : cOpd x = some x')
    (hxe : x'.ev e = .iv (.str s)) (helt : el < 4294967296) (hle : s.size ≤ 2147483648) (hρ : Opds X ρ w C h (.cvtSB el x') e) (pre : Pre X w C h (foot (.cvtSB el x') e) (h.objs.length + 1)) :
    Concl P X ρ o w C h (.cvtSB el x') e (.osl h.objs.length h.nv) ⟨h.objs ++ [.row (el + 4294967296) 1 h.nv (bytesIV s)], h.nv + 1⟩ := by
  have hxr := hρ x x' hx (by simp [AI.opds])
  rw [hxe] at hxr
  have hu := hxr.inv_iv.inv_str
  have hrun := run_bytes_of_string (P := P) w sT dT el s hs hd hel
  obtain ⟨cap, hcap⟩ : ∃ cap, cap = grownCap w s.size 0 el := ⟨_, rfl⟩
  rw [← hcap] at hrun
  have hge : s.size ≤ cap := by rw [hcap]; exact grownCap_ge _ _ _ _
  have hmx : cap ≤ maxLen := by rw [hcap]; exact grownCap_le_maxLen _ _ _ _ (by simp only [maxLen]; omega)
  have hsz : (bytesRow s cap).size = cap := by
    simp only [bytesRow, Array.size_append, Array.size_map, Array.size_replicate]
    have : s.data.size = s.size := rfl
    omega
  rw [hsz] at hrun
  have hhp : (w.drew.alloc (.cells (bytesRow s cap) el (cap, cap + 1))).heap = w.heap.push (.cells (bytesRow s cap) el (cap, cap + 1)) := rfl
  have hown : Held (w.drew.alloc (.cells (bytesRow s cap) el (cap, cap + 1))) (el + 4294967296) 1 (.slice (some ⟨w.heap.size, 0, none⟩) s.size cap) (bytesIV s).length (s.data.map (fun b => Value.int .u8 b.toNat)).toList := by
    refine ⟨by simp [bytesIV], .inr ⟨w.heap.size, cap, bytesRow s cap, by simp [bytesIV], Nat.zero_le _, ?_, by simpa [bytesIV] using hge, hmx, by rw [hsz]; simp, ?_⟩⟩
    · rw [hhp, hsz]
      simp only [tyOf, frOf]
      rw [if_neg (by omega), Nat.add_mod_right, Nat.mod_eq_of_lt helt]
      simp
    · have h1 : (bytesRow s cap).toList = (s.data.map (fun b => Value.int .u8 b.toNat)).toList ++ (Array.replicate (cap - s.size) (Value.int .u8 0)).toList := by simp [bytesRow]
      rw [h1]
      exact List.take_left' (by simp [bytesIV])
  have hrr := rowRel_bytes (w := w) (S := Shut X C) s
  have hfree := pre.free
  have hrr' : RowRel w (Shut X C) 1 (bytesIV s) (s.data.map (fun b => Value.int .u8 b.toNat)).toList := by simpa using hrr
  have R := Res.freshRow (X := X) hfree pre.lt (by omega) hown hrr' rfl rfl rfl (by rw [hhp]; simp) (fun b hb => by rw [hhp, Array.getElem?_push]; rw [if_neg (by omega)]) (.inl rfl) (fun b hb => by simp only [blkOf, Option.some.injEq] at hb; rw [hhp]; simp; omega)
  have hp' : Pre X w C h (foot (.cvtSB el x') e) (h.objs.length + 1) := pre
  refine ⟨_, _, _, .inl ?_, by simpa [modOf, AI.cls] using R⟩
  simp [execOp, ho, hu, hrun]
end
end Go.Om
