/-
  Om: each instruction does what the model's operation does: what computes, what reads, what makes.
-/
import Derived.Test.YtihhnicfkeiglaaOm4
import Derived.Laws.CopyRow
set_option linter.all false
namespace Go.Om
open Go Go.RowKit

def Runs (P : Program) (ρ : Operand → Value) (o : Oper) (w : World) (u : Value) (w' : World) : Prop :=
  (execOp ρ o).run P w = .ok (.value u) w' ∨ ((execOp ρ o).run P w = .ok .skip w' ∧ u = undef)

section
variable {hh : Nat} {P : Program} {X : Nat → Prop} {w w' : World} {C C' : Conc} {h h' : Hp} {v : AV} {u : Value} {K mod : List Nat} {ρ : Operand → Value} {e : AEnv} {o : Oper} {S : Nat → Prop} {nv : Nat}

theorem runs_v {s : Sem Value} (ho : execOp ρ o = (do pure (.value (← s)))) (h : s.run P w = .ok u w') : Runs P ρ o w u w' := .inl (by rw [ho]; simp [h])

theorem add_none (b off n : Nat) : (⟨b, off, none⟩ : Addr).add n = ⟨b, off + n, none⟩ := by
  unfold Addr.add
  split <;> simp_all

/-! ### constants, cells -/
theorem cval1_rel (x : Value) : ARel w S C nv (cval1 x) x := by
  unfold cval1
  split
  · exact .iv (.bool _)
  · exact .iv (.int _ _)
  · exact .iv (.str _)
  · exact .nils
  · exact .un _
theorem cval1s_rel (l : List Value) : ARels w S C nv (l.map cval1) l := by
  induction l with
  | nil => exact .nil
  | cons a r ih => exact .cons (cval1_rel a) ih
theorem cval_rel (x : Value) : ARel w S C nv (cval x) x := by
  unfold cval
  split
  · rename_i cs
    have := cval1s_rel (w := w) (S := S) (C := C) (nv := nv) cs.toList
    have h2 := ARel.agg (w := w) (S := S) (C := C) (nv := nv) _ _ this.1 this.2
    simpa using h2
  · exact .un _
  · exact cval1_rel _

theorem isCell_one {x : AV} (hx : isCell x = true) (hr : ARel w S C nv x u) : u.oneCell' = true := by
  cases hr with
  | iv h => exact oneCell_IRel h
  | nils => rfl
  | agg => simp [isCell] at hx
  | osl k ver u co hv hc h1 h => exact h1
  | osub k ver off len u co hv hc h1 h => exact h1
  | ptr k ver i j u co hv hc h1 h => obtain ⟨a, rfl⟩ := h1; rfl
  | iptr => rfl
  | tup => simp [isCell] at hx
  | fn => rfl
  | un => simp [isCell] at hx
theorem cells_one (hu : u.oneCell' = true) : u.cells = #[u] := by
  cases u <;> simp_all [Value.oneCell', Value.cells]
theorem cellsOf_rel {a : AV} {cs : List AV} (hc : cellsOf a = some cs) (hr : ARel w S C nv a u) : ∃ us : List Value, u.cells = us.toArray ∧ ARels w S C nv cs us ∧ ∀ x ∈ us, x.oneCell' = true := by
  by_cases hagg : ∃ ds, a = .agg ds
  · obtain ⟨ds, rfl⟩ := hagg
    simp only [cellsOf] at hc
    split at hc
    · rename_i hall
      cases hc
      obtain ⟨us, rfl, hs⟩ := hr.inv_agg
      refine ⟨us, rfl, hs, fun x hx => ?_⟩
      obtain ⟨j, hj⟩ := List.mem_iff_getElem?.1 hx
      have hlt : j < cs.length := by rw [hs.1]; exact (List.getElem?_eq_some_iff.1 hj).1
      have hj2 := List.getElem?_eq_getElem hlt
      refine isCell_one ?_ (hs.2 j _ _ hj2 hj)
      exact List.all_eq_true.1 hall _ (List.getElem_mem hlt)
    · simp at hc
  · have : cellsOf a = if isCell a then some [a] else none := by
      cases a <;> first | rfl | (exact absurd ⟨_, rfl⟩ hagg)
    rw [this] at hc
    split at hc
    · rename_i hi
      cases hc
      have h1 := isCell_one hi hr
      exact ⟨[u], cells_one h1, .cons hr .nil, by simpa using h1⟩
    · simp at hc

/-- The cells behind a pointer, of its element. -/
theorem cellsAt_rel {k ver i j : Nat} {cs : List AV} (hc : cellsAt h k ver i = some cs) (hok : ∀ o, h.objs[k]? = some o → ObjOk w S C nv k o) (hr : ARel w S C nv (.ptr k ver i j) u) :
    ∃ b sz us, u = .pointer (some ⟨b, i * sz + j, none⟩) ∧ ARels w S C nv cs us ∧ ∀ n x, us[n]? = some x → w.cell? ⟨b, i * sz + n, none⟩ = some x := by
  obtain ⟨hv, _, co, hco, hp⟩ := hr.inv_ptr
  unfold cellsAt at hc
  split at hc
  · rename_i t v' cells hk
    split at hc
    · rename_i hve
      subst hve
      split at hc
      · rename_i hi
        subst hi
        cases hc
        obtain ⟨_, g, us, hC, hg, hs⟩ := hok _ hk
        rw [hC] at hco
        cases hco
        obtain ⟨g', hb, rfl⟩ := hp _ _ rfl
        simp [blkOf] at hb
        subst hb
        refine ⟨g, 0, us, by simp, hs, fun n x hx => ?_⟩
        simp [World.cell?, hg, hx]
      · simp at hc
    · simp at hc
  · rename_i t sz v' es hk
    split at hc
    · rename_i hve
      subst hve
      obtain ⟨_, hz, val, us, hC, hown, hrow⟩ := hok _ hk
      rw [hC] at hco
      cases hco
      obtain ⟨g', hb, rfl⟩ := hp _ _ rfl
      cases hes : es[i]? with
      | none => rw [hes] at hc; simp at hc
      | some el =>
        rw [hes] at hc
        simp at hc
        subst hc
        have hil : i < es.length := (List.getElem?_eq_some_iff.1 hes).1
        have hell := hrow.1 i el hes
        have hul : us.length = es.length * sz := hown.1
        have hbound : i * sz + sz ≤ us.length := by
          rw [hul]
          have := Nat.mul_le_mul_right sz (Nat.succ_le_of_lt hil)
          rwa [Nat.succ_mul] at this
        have hob : val.ownBlock = some g' := by
          rcases hown.2 with ⟨rfl, hn⟩ | ⟨gg, cap, cur, rfl, _⟩
          · omega
          · simpa [blkOf, Value.ownBlock] using hb
        refine ⟨g', sz, (us.drop (i * sz)).take sz, rfl, ⟨by simp [hell]; omega, fun n x y h1 h2 => ?_⟩, fun n x hx => ?_⟩
        · rw [List.getElem?_map] at h1
          cases hn : el[n]? with
          | none => rw [hn] at h1; simp at h1
          | some z =>
            rw [hn] at h1
            simp at h1
            subst h1
            rw [List.getElem?_take] at h2
            split at h2
            · rw [List.getElem?_drop] at h2
              exact .iv (hrow.2 i el n z y hes hn h2)
            · simp at h2
        · rw [List.getElem?_take] at hx
          split at hx
          · rw [List.getElem?_drop] at hx
            have := hown.cells hob _ _ hx
            exact this
          · simp at hx
    · simp at hc
  · simp at hc

/-! ### the instructions -/
/-- The model's operation gives what the instruction gives. -/
def Concl (P : Program) (X : Nat → Prop) (ρ : Operand → Value) (o : Oper) (w : World) (C : Conc) (h : Hp) (i : AI) (e : AEnv) (v : AV) (h' : Hp) : Prop :=
  ∃ u w' C', Runs P ρ o w u w' ∧ Res X w C h (modOf i e) v h' u w' C'
/-- The operands, related. -/
def Opds (X : Nat → Prop) (ρ : Operand → Value) (w : World) (C : Conc) (h : Hp) (i : AI) (e : AEnv) : Prop :=
  ∀ x y, cOpd x = some y → y ∈ i.opds → ARel w (Shut X C) C h.nv (y.ev e) (ρ x)

theorem mem_foot {i : AI} {y : Opd} {k : Nat} (hy : y ∈ i.opds) (hk : k ∈ refs (y.ev e)) (hc : i.cls ≠ .p) : k ∈ foot i e := by
  unfold foot
  rw [if_neg hc]
  exact List.mem_flatMap.2 ⟨y, hy, hk⟩

theorem sound_mov {x : Operand} {y : Opd} (ho : execOp ρ o = pure (.value (ρ x))) (hx : cOpd x = some y) (hρ : Opds X ρ w C h (.mov y) e) : Concl P X ρ o w C h (.mov y) e (y.ev e) h :=
  ⟨ρ x, w, C, .inl (by rw [ho]; rfl), Res.pure (hρ x y hx (by simp [AI.opds]))⟩

theorem sound_pick {c a b : Operand} {c' a' b' : Opd} {t : Bool} (ho : o.op = .pick c a b) (hc : cOpd c = some c') (ha : cOpd a = some a') (hb : cOpd b = some b') (ht : c'.ev e = .iv (.bool t))
    (hρ : Opds X ρ w C h (.pick c' a' b') e) : Concl P X ρ o w C h (.pick c' a' b') e (if t then a'.ev e else b'.ev e) h := by
  have h1 := hρ c c' hc (by simp [AI.opds])
  rw [ht] at h1
  have h2 := h1.inv_iv.inv_bool
  refine ⟨if t then ρ a else ρ b, w, C, .inl ?_, Res.pure ?_⟩
  · simp [execOp, ho, h2, asBool]
  · cases t
    · exact hρ b b' hb (by simp [AI.opds])
    · exact hρ a a' ha (by simp [AI.opds])

theorem sound_box {t : Nat} {x : Operand} {y : Opd} {cs : List AV} (ho : o.op = .box t x) (hx : cOpd x = some y) (hc : cellsOf (y.ev e) = some cs) (hρ : Opds X ρ w C h (.box t y) e) (pre : Pre X w C h K (h.objs.length + 1)) :
    Concl P X ρ o w C h (.box t y) e (.ptr h.objs.length h.nv 0 0) ⟨h.objs ++ [.box t h.nv cs], h.nv + 1⟩ := by
  obtain ⟨us, hus, hs, _⟩ := cellsOf_rel hc (hρ x y hx (by simp [AI.opds]))
  refine ⟨_, _, _, .inl ?_, Res.newBox pre t hs⟩
  simp [execOp, ho, Instr.box, newVar, newRow, hus]

theorem sound_zbox {t : Nat} {i : TypeInfo} {z : Value} (ho : o.op = .alloc t) (hi : P.info? t = some i) (hz : i.zero = some z) (pre : Pre X w C h K (h.objs.length + 1)) :
    Concl P X ρ o w C h (.zbox t (z.cells.toList.map cval1)) e (.ptr h.objs.length h.nv 0 0) ⟨h.objs ++ [.box t h.nv (z.cells.toList.map cval1)], h.nv + 1⟩ := by
  refine ⟨_, _, _, .inl ?_, Res.newBox pre t (cval1s_rel z.cells.toList)⟩
  simp [execOp, ho, Instr.alloc, zeroValue, typeInfo, hi, hz, newVar, newRow]

theorem tagg_run {t : Nat} {b : Bool} (ht : tagg P t = some b) : (isAgg t).run P w = .ok b w := by
  unfold tagg at ht
  cases hu : P.underlying t with
  | none => rw [hu] at ht; simp at ht
  | some d => rw [hu] at ht; cases d <;> simp at ht <;> subst ht <;> simp [isAgg, underlying, hu]
theorem tsz_run {t n : Nat} (ht : tsz P t = some n) : (sizeOf t).run P w = .ok n w := by
  unfold tsz at ht
  cases hi : P.info? t with
  | none => rw [hi] at ht; simp at ht
  | some i => rw [hi] at ht; simp at ht; subst ht; simp [sizeOf, typeInfo, hi]


/-- What is at a pointer: the cells from there on. -/
def AtPtr (h : Hp) : AV → Option (List AV)
  | .ptr k v i j => (cellsAt h k v i).map (·.drop j)
  | .iptr cs => some (cs.map .iv)
  | _ => none
theorem atPtr_rel {p : AV} {cs : List AV} (hp : AtPtr h p = some cs) (hok : ∀ k o, k ∈ refs p → h.objs[k]? = some o → ObjOk w S C nv k o) (hr : ARel w S C nv p u) :
    ∃ b off us, u = .pointer (some ⟨b, off, none⟩) ∧ ARels w S C nv cs us ∧ ∀ n x, us[n]? = some x → w.cell? ⟨b, off + n, none⟩ = some x := by
  cases p with
  | ptr k v i j =>
    simp only [AtPtr] at hp
    cases hc : cellsAt h k v i with
    | none => rw [hc] at hp; simp at hp
    | some ds =>
      rw [hc] at hp
      simp at hp
      subst hp
      obtain ⟨b, sz, us, rfl, hs, hcell⟩ := cellsAt_rel hc (fun o ho => hok k o (by simp [refs, refs1]) ho) hr
      refine ⟨b, i * sz + j, us.drop j, rfl, hs.drop j, fun n x hx => ?_⟩
      rw [List.getElem?_drop] at hx
      have := hcell _ _ hx
      rwa [Nat.add_assoc]
  | iptr ds =>
    simp only [AtPtr, Option.some.injEq] at hp
    subst hp
    obtain ⟨b, off, g, rfl, hs⟩ := hr.inv_iptr
    refine ⟨b, off, (List.range ds.length).map g, rfl, ⟨by simp, fun j x y h1 h2 => ?_⟩, fun n x hx => ?_⟩
    · rw [List.getElem?_map] at h1
      cases hd : ds[j]? with
      | none => rw [hd] at h1; simp at h1
      | some z =>
        rw [hd] at h1
        simp at h1
        subst h1
        have hj : j < ds.length := (List.getElem?_eq_some_iff.1 hd).1
        rw [List.getElem?_map, List.getElem?_range hj] at h2
        simp at h2
        subst h2
        exact .iv (hs j z hd).2.2
    · have hn : n < ds.length := by have := (List.getElem?_eq_some_iff.1 hx).1; simpa using this
      rw [List.getElem?_map, List.getElem?_range hn] at hx
      simp at hx
      subst hx
      exact (hs n _ (List.getElem?_eq_getElem hn)).2.1
  | _ => simp [AtPtr] at hp

theorem sound_ldA {t n : Nat} {x : Operand} {y : Opd} {cs : List AV} (ho : o.op = .load t x) (hg : tagg P t = some true) (hn : tsz P t = some n) (hx : cOpd x = some y) (hp : AtPtr h (y.ev e) = some cs) (hle : n ≤ cs.length)
    (hρ : Opds X ρ w C h (.ldA n y) e) (pre : Pre X w C h (foot (.ldA n y) e) hh) : Concl P X ρ o w C h (.ldA n y) e (.agg (cs.take n)) h := by
  obtain ⟨b, off, us, hu, hs, hcell⟩ := atPtr_rel hp (fun k o hk ho => pre.ok k o (mem_foot (by simp [AI.opds]) hk (by simp [AI.cls])) ho) (hρ x y hx (by simp [AI.opds]))
  have hl : (us.take n).length = n := by rw [List.length_take, ← hs.1]; omega
  have hrun := run_loadCells_list (P := P) w ⟨b, off, none⟩ (us.take n) (fun j v hv => by
    rw [List.getElem?_take] at hv
    split at hv
    · rw [add_none]; exact hcell _ _ hv
    · simp at hv)
  rw [hl] at hrun
  have hts := hs.take n
  refine ⟨.agg (us.take n).toArray, w, C, .inl ?_, Res.pure (.agg _ _ hts.1 hts.2)⟩
  simp [execOp, ho, hu, Instr.loadAt, Instr.sureAddr, loadVar, tagg_run hg, tsz_run hn, hrun]

theorem sound_ld1 {t : Nat} {x : Operand} {y : Opd} {cs : List AV} {z : AV} (ho : o.op = .load t x) (hg : tagg P t = some false) (hx : cOpd x = some y) (hp : AtPtr h (y.ev e) = some cs) (hz : cs[0]? = some z)
    (hρ : Opds X ρ w C h (.ld1 y) e) (pre : Pre X w C h (foot (.ld1 y) e) hh) : Concl P X ρ o w C h (.ld1 y) e z h := by
  obtain ⟨b, off, us, hu, hs, hcell⟩ := atPtr_rel hp (fun k o hk ho => pre.ok k o (mem_foot (by simp [AI.opds]) hk (by simp [AI.cls])) ho) (hρ x y hx (by simp [AI.opds]))
  obtain ⟨v, hv, hr⟩ := hs.get hz
  have hc := hcell _ _ hv
  refine ⟨v, w, C, .inl ?_, Res.pure hr⟩
  simp [execOp, ho, hu, Instr.loadAt, Instr.sureAddr, loadVar, tagg_run hg] at hc ⊢
  simp [hc]

theorem sound_fadr {s f n : Nat} {fs : Array Field} {fd : Field} {x : Operand} {y : Opd} (ho : o.op = .fieldAddr s x f) (hs : P.underlying s = some (.struct fs)) (hf : fs[f]? = some fd) (hn : tsz P fd.type = some n) (hn0 : n ≠ 0)
    (hx : cOpd x = some y) (hv : (∃ k v' i j, y.ev e = .ptr k v' i j ∧ v = .ptr k v' i (j + fd.offset)) ∨ ∃ cs, y.ev e = .iptr cs ∧ v = .iptr (cs.drop fd.offset)) (hρ : Opds X ρ w C h (.fadr fd.offset y) e) :
    Concl P X ρ o w C h (.fadr fd.offset y) e v h := by
  have hr := hρ x y hx (by simp [AI.opds])
  have run : ∀ a : Addr, ρ x = .pointer (some a) → Runs P ρ o w (.pointer (some (a.add fd.offset))) w := fun a ha => .inl (by
    simp [execOp, ho, Instr.fieldAt, run_underlying hs, hf, ha, Instr.sureAddr, fieldPlace, tsz_run hn, hn0])
  rcases hv with ⟨k, v', i, j, hy, rfl⟩ | ⟨cs, hy, rfl⟩
  · rw [hy] at hr
    obtain ⟨hv, ⟨a, ha⟩, co, hco, hh⟩ := hr.inv_ptr
    refine ⟨_, w, C, run a ha, Res.pure (.ptr _ _ _ _ _ co hv hco ⟨_, rfl⟩ fun vv sz hc => ?_)⟩
    obtain ⟨g, hg, he⟩ := hh vv sz hc
    rw [ha] at he
    cases he
    exact ⟨g, hg, by rw [add_none, Nat.add_assoc]⟩
  · rw [hy] at hr
    obtain ⟨b, off, g, ha, hs⟩ := hr.inv_iptr
    refine ⟨_, w, C, run _ ha, Res.pure ?_⟩
    rw [add_none]
    refine .iptr _ b _ (fun j => g (fd.offset + j)) fun j x hx => ?_
    rw [List.getElem?_drop] at hx
    have := hs _ _ hx
    rwa [← Nat.add_assoc] at this

theorem aint_rel {x : AV} {n : Int} (hx : aint x = some n) (hr : ARel w S C nv x u) : ∃ k, u = .int k n := by
  cases x <;> simp [aint] at hx
  rename_i x
  cases x <;> simp at hx
  subst hx
  exact ⟨_, hr.inv_iv.inv_int⟩

theorem part_run {t n off : Nat} {g : Bool} {us : List Value} {z : AV} {cs : List AV} (hg : tagg P t = some g) (hn : tsz P t = some n) (hs : ARels w S C nv cs us)
    (hz : if g then (off + n ≤ cs.length ∧ z = .agg ((cs.drop off).take n)) else cs[off]? = some z) : ∃ u, (part t us.toArray off).run P w = .ok u w ∧ ARel w S C nv z u := by
  cases g with
  | true =>
    simp only [if_true] at hz
    obtain ⟨hle, rfl⟩ := hz
    have h2 := (hs.drop off).take n
    refine ⟨.agg ((us.drop off).take n).toArray, ?_, .agg _ _ h2.1 h2.2⟩
    have : us.toArray.extract off (off + n) = ((us.drop off).take n).toArray := by
      simp [List.extract_eq_take_drop]
    simp [part, tagg_run hg, tsz_run hn, this]
  | false =>
    simp only [Bool.false_eq_true, if_false] at hz
    obtain ⟨v, hv, hr⟩ := hs.get hz
    exact ⟨v, by simp [part, tagg_run hg, hv], hr⟩

theorem sound_fld {t f n : Nat} {g : Bool} {fs : Array Field} {fd : Field} {x : Operand} {y : Opd} {cs : List AV} (ho : o.op = .field t x f) (hs : P.underlying t = some (.struct fs)) (hf : fs[f]? = some fd) (hg : tagg P fd.type = some g) (hn : tsz P fd.type = some n)
    (hx : cOpd x = some y) (hy : y.ev e = .agg cs) (hz : if g then (fd.offset + n ≤ cs.length ∧ v = .agg ((cs.drop fd.offset).take n)) else cs[fd.offset]? = some v) (hρ : Opds X ρ w C h (.fld g n fd.offset y) e) :
    Concl P X ρ o w C h (.fld g n fd.offset y) e v h := by
  have hr := hρ x y hx (by simp [AI.opds])
  rw [hy] at hr
  obtain ⟨us, hu, hus⟩ := hr.inv_agg
  obtain ⟨u, hrun, hru⟩ := part_run hg hn hus hz
  exact ⟨u, w, C, .inl (by simp [execOp, ho, Instr.field, run_underlying hs, hf, hu, asAgg, hrun]), Res.pure hru⟩

theorem sound_iadrA {t len el n : Nat} {x ix : Operand} {y iy : Opd} {q : Int} (ho : o.op = .indexAddr t x ix) (ht : P.underlying t = some (.array len el)) (hn : tsz P el = some n) (hx : cOpd x = some y) (hix : cOpd ix = some iy)
    (hq : aint (iy.ev e) = some q) (h0 : 0 ≤ q) (hq2 : q < len) (hv : (∃ k v' i j, y.ev e = .ptr k v' i j ∧ v = .ptr k v' i (j + q.toNat * n)) ∨ ∃ cs, y.ev e = .iptr cs ∧ v = .iptr (cs.drop (q.toNat * n)))
    (hρ : Opds X ρ w C h (.iadrA len n y iy) e) : Concl P X ρ o w C h (.iadrA len n y iy) e v h := by
  have hr := hρ x y hx (by simp [AI.opds])
  obtain ⟨kk, hi⟩ := aint_rel hq (hρ ix iy hix (by simp [AI.opds]))
  have run : ∀ a : Addr, ρ x = .pointer (some a) → Runs P ρ o w (.pointer (some (a.add (q.toNat * n)))) w := fun a ha => .inl (by
    simp [execOp, ho, Instr.indexAt, hi, asIntOf, run_underlying ht, ha, Instr.sureAddr, tsz_run hn, h0, hq2])
  rcases hv with ⟨k, v', i, j, hy, rfl⟩ | ⟨cs, hy, rfl⟩
  · rw [hy] at hr
    obtain ⟨hv, ⟨a, ha⟩, co, hco, hh⟩ := hr.inv_ptr
    refine ⟨_, w, C, run a ha, Res.pure (.ptr _ _ _ _ _ co hv hco ⟨_, rfl⟩ fun vv sz hc => ?_)⟩
    obtain ⟨g, hg, he⟩ := hh vv sz hc
    rw [ha] at he
    cases he
    exact ⟨g, hg, by rw [add_none, Nat.add_assoc]⟩
  · rw [hy] at hr
    obtain ⟨b, off, g, ha, hs⟩ := hr.inv_iptr
    refine ⟨_, w, C, run _ ha, Res.pure ?_⟩
    rw [add_none]
    refine .iptr _ b _ (fun j => g (q.toNat * n + j)) fun j x hx => ?_
    rw [List.getElem?_drop] at hx
    have := hs _ _ hx
    rwa [← Nat.add_assoc] at this
end
end Go.Om
