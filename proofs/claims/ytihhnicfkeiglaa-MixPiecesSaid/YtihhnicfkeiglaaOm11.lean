/-
  Om: appends, makes, what is built.
-/
import Derived.Test.YtihhnicfkeiglaaOm10
import Derived.Laws.MakeOwn
set_option linter.all false
namespace Go.Om
open Go Go.RowKit

section
variable {hh : Nat} {P : Program} {X : Nat → Prop} {w w' : World} {C C' : Conc} {h h' : Hp} {v : AV} {u : Value} {K mod : List Nat} {ρ : Operand → Value} {e : AEnv} {o : Oper} {S : Nat → Prop} {nv : Nat}

theorem toIVs_length {cs : List AV} {ics : List IV} (hc : toIVs cs = some ics) : ics.length = cs.length := by
  induction cs generalizing ics with
  | nil => simp [toIVs] at hc; subst hc; rfl
  | cons a r ih =>
    cases a <;> simp only [toIVs] at hc <;> try (simp at hc; done)
    all_goals
      cases hq : toIVs r with
      | none => rw [hq] at hc; simp at hc
      | some ys => rw [hq] at hc; simp at hc; subst hc; simp [ih hq]

/-- What the translation knows of an element's type. -/
theorem elem_info {el n : Nat} {zs : List IV} (hn : tsz P el = some n) (hz : tzeroI P el = some zs) (hl : zs.length = n) : ∃ i z, P.info? el = some i ∧ i.size = n ∧ i.zero = some z ∧ z.cells.size = n ∧ toIVs (z.cells.toList.map cval1) = some zs := by
  unfold tsz at hn
  unfold tzeroI tzero at hz
  cases hi : P.info? el with
  | none => rw [hi] at hn; simp at hn
  | some i =>
    rw [hi] at hn hz
    simp at hn
    cases hzz : i.zero with
    | none => simp [hzz] at hz
    | some z =>
      simp only [Option.bind_some, hzz, Option.map_some] at hz
      have := toIVs_length hz
      simp at this
      exact ⟨i, z, rfl, hn, hzz, by omega, hz⟩

theorem call2 {c : Call} {b : Builtin} {t tx : Nat} {s x : Operand} (ho : o.op = .call c) (hb : c.callee = .builtin b) (ht : c.argTypes.toList = [t, tx]) (hx : c.args.toList = [s, x]) :
    ∃ ks, execOp ρ o = builtin b #[t, tx] o.type ks #[ρ s, ρ x] := by
  have h1 : c.argTypes = #[t, tx] := by rw [← Array.toArray_toList (xs := c.argTypes), ht]
  have h2 : c.args = #[s, x] := by rw [← Array.toArray_toList (xs := c.args), hx]
  exact ⟨_, by simp [execOp, ho, resolve, hb, h1, h2, invoke]; rfl⟩
theorem call1 {c : Call} {b : Builtin} {t : Nat} {s : Operand} (ho : o.op = .call c) (hb : c.callee = .builtin b) (ht : c.argTypes.toList = [t]) (hx : c.args.toList = [s]) :
    ∃ ks, execOp ρ o = builtin b #[t] o.type ks #[ρ s] := by
  have h1 : c.argTypes = #[t] := by rw [← Array.toArray_toList (xs := c.argTypes), ht]
  have h2 : c.args = #[s] := by rw [← Array.toArray_toList (xs := c.args), hx]
  exact ⟨_, by simp [execOp, ho, resolve, hb, h1, h2, invoke]; rfl⟩

theorem all_len {es : List (List IV)} {n : Nat} (ha : es.all (fun d => d.length == n) = true) : ∀ (i : Nat) (d : List IV), es[i]? = some d → d.length = n := by
  intro i d hd
  have := List.all_eq_true.1 ha d (List.mem_of_getElem? hd)
  simpa using this

theorem rowRel_append {sz : Nat} {es ds : List (List IV)} {us vs : List Value} (h1 : RowRel w S sz es us) (hl : us.length = es.length * sz) (h2 : RowRel w S sz ds vs) : RowRel w S sz (es ++ ds) (us ++ vs) := by
  refine ⟨fun i d hd => ?_, fun i d j x u a1 a2 a3 => ?_⟩
  · by_cases hi : i < es.length
    · rw [List.getElem?_append_left hi] at hd; exact h1.1 i d hd
    · rw [List.getElem?_append_right (by omega)] at hd; exact h2.1 _ d hd
  · by_cases hi : i < es.length
    · rw [List.getElem?_append_left hi] at a1
      have hj : j < sz := by have := (List.getElem?_eq_some_iff.1 a2).1; rwa [h1.1 i d a1] at this
      have hb : i * sz + j < us.length := by
        rw [hl]
        have := Nat.mul_le_mul_right sz (Nat.succ_le_of_lt hi)
        rw [Nat.succ_mul] at this
        omega
      rw [List.getElem?_append_left hb] at a3
      exact h1.2 i d j x u a1 a2 a3
    · rw [List.getElem?_append_right (by omega)] at a1
      have hb : us.length ≤ i * sz + j := by
        rw [hl]
        have := Nat.mul_le_mul_right sz (Nat.le_of_not_lt hi)
        omega
      rw [List.getElem?_append_right hb] at a3
      refine h2.2 _ d j x u a1 a2 ?_
      rw [← a3]
      congr 1
      rw [hl, Nat.sub_mul]
      have := Nat.mul_le_mul_right sz (Nat.le_of_not_lt hi)
      omega

/-- Behind an append onto a row of its own. -/
theorem app_res {i : AI} {el sz k ver : Nat} {es news : List (List IV)} {val val' : Value} {us vs : List Value} (hkf : k ∈ foot i e) (hcls : i.cls = .m) (hrow : rowAt h k ver = some (el, sz, es))
    (pre : Pre X w C h (foot i e) h.objs.length) (hC : C k = some (.live ver val sz)) (hz : 0 < sz) (hown : Held w el sz val es.length us) (hrr : RowRel w (Shut X C) sz es us) (hvr : RowRel w (Shut X C) sz news vs)
    (h0 : Held w' el sz val' (es.length + news.length) (us ++ vs)) (h1 : w'.os = w.os) (h2 : w'.tape = w.tape) (h3 : w'.output = w.output) (h4 : w.heap.size ≤ w'.heap.size)
    (h5 : ∀ b, b < w.heap.size → val.ownBlock ≠ some b → w'.heap[b]? = w.heap[b]?) (h6 : val'.ownBlock = val.ownBlock ∨ val'.ownBlock = some w.heap.size) (h7 : ∀ b, val'.ownBlock = some b → b < w'.heap.size) :
    Res X w C h (modOf i e) (.osl k h.nv) ⟨h.objs.set k (.row el sz h.nv (es ++ news)), h.nv + 1⟩ val' w' (setC C k (.live h.nv val' sz)) := by
  have hk : h.objs[k]? = some (.row el sz ver es) := by
    unfold rowAt at hrow
    split at hrow
    · rename_i hk
      split at hrow
      · rename_i hv; cases hrow; subst hv; exact hk
      · simp at hrow
    · simp at hrow
  have hb1 := blk_own hown
  have hb2 := blk_own h0
  have D : Delta X w C h.nv [k] h.objs.length h.objs.length w' (setC C k (.live h.nv val' sz)) (h.nv + 1) :=
    Delta.turn (List.getElem?_eq_some_iff.1 hk).1 hC pre.dist pre.lt h1 h2 h3 h4 (fun b hb hne => h5 b hb (by rwa [← hb1])) (by rw [hb1, hb2]; exact h6) (by rw [hb2]; exact h7)
  have E := D.ext (fun n a b => by omega)
  have R : Res X w C h [k] (.osl k h.nv) ⟨h.objs.set k (.row el sz h.nv (es ++ news)), h.nv + 1⟩ val' w' (setC C k (.live h.nv val' sz)) := by
    refine ⟨by simpa using D, ?_, fun n ob hn hob => ?_, fun n hn hne => ?_, by simp⟩
    · have h1c : val'.oneCell' = true := by rcases h0.2 with ⟨rfl, _⟩ | ⟨g, cap, cur, rfl, _⟩ <;> rfl
      exact .osl _ _ _ _ (Nat.lt_succ_self _) (setC_same _ _ _) h1c fun v s hh => by cases hh; rfl
    · have : n = k := by
        rcases hn with hn | hn
        · simpa using hn
        · simp only at hob
          rw [List.getElem?_eq_none (by simpa using hn)] at hob
          simp at hob
      subst this
      simp only at hob
      rw [List.getElem?_set_self (List.getElem?_eq_some_iff.1 hk).1] at hob
      cases hob
      exact ⟨Nat.lt_succ_self _, hz, val', us ++ vs, setC_same _ _ _, by rw [List.length_append]; exact h0, ObjOk.mono_row E.lasts (rowRel_append hrr hown.1 hvr)⟩
    · simp only
      rw [List.getElem?_set_ne (by simp at hne; omega)]
  have pre' : Pre X w C h (foot i e) ({ objs := h.objs.set k (.row el sz h.nv (es ++ news)), nv := h.nv + 1 } : Hp).objs.length := by simpa using pre
  have := R.more pre' (mod' := foot i e) (fun n hn => by simp at hn; subst hn; exact hkf) (fun n hn => hn)
  simpa [modOf, hcls] using this

/-- A new row, however it came. -/
theorem Res.freshRow {el sz : Nat} {es : List (List IV)} {us : List Value} {val : Value} (hf : Free C h.objs.length (h.objs.length + 1)) (hlt : ∀ b, LiveB C b → b < w.heap.size) (hz : 0 < sz)
    (hown : Held w' el sz val es.length us) (hrr : RowRel w (Shut X C) sz es us) (h1 : w'.os = w.os) (h2 : w'.tape = w.tape) (h3 : w'.output = w.output) (h4 : w.heap.size ≤ w'.heap.size)
    (h5 : ∀ b, b < w.heap.size → w'.heap[b]? = w.heap[b]?) (h6 : blkOf val = some w.heap.size ∨ blkOf val = none) (h7 : ∀ b, blkOf val = some b → b < w'.heap.size) :
    Res X w C h [] (.osl h.objs.length h.nv) ⟨h.objs ++ [.row el sz h.nv es], h.nv + 1⟩ val w' (setC C h.objs.length (.live h.nv val sz)) := by
  have D : Delta X w C h.nv [] h.objs.length (h.objs.length + 1) w' (setC C h.objs.length (.live h.nv val sz)) (h.nv + 1) := by
    have D0 := Delta.new (X := X) (w := w) (nv := h.nv) hf hlt (.cells #[] el (0, 0)) h.nv val sz (Nat.le_refl _) h6
    exact { D0 with
      os := h1
      tape := h2
      output := h3
      size := h4
      blk := fun b hb _ => h5 b hb
      lt := fun hl b ⟨q, ver', v', sz', hc, hbk⟩ => by
        by_cases hq : q = h.objs.length
        · subst hq
          rw [setC_same] at hc
          cases hc
          exact h7 b hbk
        · rw [setC_ne C _ hq] at hc
          have := hl b ⟨q, _, _, _, hc, hbk⟩
          omega }
  have E := D.ext hf
  have h1c : val.oneCell' = true := by rcases hown.2 with ⟨rfl, _⟩ | ⟨g, cap, cur, rfl, _⟩ <;> rfl
  refine ⟨by simpa using D, .osl _ _ _ _ (Nat.lt_succ_self _) (setC_same _ _ _) h1c fun v s hh => by cases hh; rfl, fun q ob hq hob => ?_, fun q hq _ => List.getElem?_append_left hq, by simp⟩
  have hq : h.objs.length ≤ q := hq.resolve_left (by simp)
  simp only at hob
  rw [List.getElem?_append_right hq] at hob
  have h0 : q - h.objs.length = 0 := by
    have := (List.getElem?_eq_some_iff.1 hob).1
    simp at this
    omega
  rw [h0] at hob
  simp at hob
  subst hob
  have hq : q = h.objs.length := by omega
  subst hq
  exact ⟨Nat.lt_succ_self _, hz, val, us, setC_same _ _ _, hown, ObjOk.mono_row E.lasts hrr⟩

/-- append, of whatever is told of what is appended. -/
theorem appTo_sound {i : AI} {c : Call} {t tx el n bts : Nat} {s x : Operand} {s' : Opd} {zs : List IV} {news : List (List IV)} {vs : List Value} (ho : o.op = .call c) (hb : c.callee = .builtin .append) (hat : c.argTypes.toList = [t, tx]) (har : c.args.toList = [s, x])
    (ht : P.underlying t = some (.slice el)) (hn : tsz P el = some n) (hby : tby P el = some bts) (hn0 : n ≠ 0) (hb4 : bts ≤ 4096) (hz : tzeroI P el = some zs) (hzl : zs.length = n) (hcls : i.cls = .m) (hs' : s' ∈ i.opds) (hrs : ARel w (Shut X C) C h.nv (s'.ev e) (ρ s))
    (hsr : Src P n tx (ρ x) news.length vs w) (hvr : RowRel w (Shut X C) n news vs) (ha : appTo el n (s'.ev e) news h = some (v, h')) (pre : Pre X w C h (foot i e) h'.objs.length) : Concl P X ρ o w C h i e v h' := by
  obtain ⟨ii, z, hi, hin, hiz, hzs, _⟩ := elem_info hn hz hzl
  have hib : ii.bytes ≤ 4096 := by
    unfold tby at hby
    rw [hi] at hby
    simp at hby
    omega
  subst hin
  have hpos : 0 < ii.size := Nat.pos_of_ne_zero hn0
  obtain ⟨ks, hex⟩ := call2 (ρ := ρ) ho hb hat har
  unfold appTo at ha
  split at ha
  · rename_i hse
    split at ha
    · rename_i hle
      simp only [Option.some.injEq, Prod.mk.injEq] at ha
      obtain ⟨rfl, rfl⟩ := ha
      have hval : ρ s = .slice none 0 0 := by
        rw [hse] at hrs
        generalize ρ s = q at hrs
        cases hrs
        rfl
      have hown0 : w.ownsRow 0 el ii.size (.slice none 0 0) 0 [] := World.ownsRow_nil _ _ _ _
      obtain ⟨val', w', hrun, a0, a1, a2, a3, a4, a5, a6, a7, a8⟩ := append_own (ty := o.type) ht hi hiz hzs hown0 hsr hib (by omega)
      have a0 := (held_iff hle.1).1 a0
      rw [Nat.zero_add, List.nil_append] at a0
      have hblk : blkOf val' = some w.heap.size ∨ blkOf val' = none := by rw [a8]; rcases a6 with a6 | a6 <;> rw [a6] <;> simp [Value.ownBlock]
      have hfree := pre.free
      simp only [List.length_append, List.length_singleton] at hfree
      have R := Res.freshRow (X := X) hfree pre.lt hpos a0 hvr a1 a2 a3 a4 (fun b hb => a5 b hb (by simp [Value.ownBlock])) hblk (by rw [a8]; exact a7)
      have := R.more pre (mod' := foot i e) (fun n hn => by simp at hn) (fun n hn => hn)
      exact ⟨val', w', _, .inl (by rw [hex, hval]; simp [builtin, hrun]), by simpa [modOf, hcls] using this⟩
    · simp at ha
  · rename_i k ver hse
    cases hrow : rowAt h k ver with
    | none => rw [hrow] at ha; simp at ha
    | some r =>
      obtain ⟨t', sz', es⟩ := r
      rw [hrow] at ha
      simp only [Option.bind_some] at ha
      split at ha
      · rename_i heq
        obtain ⟨e1, e2⟩ := heq
        subst e1
        subst e2
        split at ha
        · rename_i hle
          simp only [Option.some.injEq, Prod.mk.injEq] at ha
          obtain ⟨rfl, rfl⟩ := ha
          have hkf : k ∈ foot i e := mem_foot hs' (by rw [hse]; simp [refs, refs1]) (by rw [hcls]; simp)
          obtain ⟨hk, hv, _, val, us, hC, hown, hrr⟩ := rowAt_rel hrow (fun o ho => pre.ok k o hkf ho)
          rw [hse] at hrs
          obtain ⟨_, _, co, hco, h3⟩ := hrs.inv_osl
          rw [hC] at hco
          cases hco
          have hval := h3 _ _ rfl
          obtain ⟨val', w', hrun, a0, a1, a2, a3, a4, a5, a6, a7, a8⟩ := append_own (ty := o.type) ht hi hiz hzs ((held_iff hle.1).2 hown) hsr hib hle.2
          have a0 := (held_iff hle.1).1 a0
          have pre' : Pre X w C h (foot i e) h.objs.length := by simpa using pre
          exact ⟨val', w', _, .inl (by rw [hex, hval]; simp [builtin, hrun]), app_res hkf hcls hrow pre' hC hpos hown hrr hvr a0 a1 a2 a3 a4 a5 a6 a7⟩
        · simp at ha
      · simp at ha
  · simp at ha

theorem sound_app {c : Call} {t tx el el' n bts : Nat} {s x : Operand} {s' x' : Opd} {zs : List IV} {news : List (List IV)} (ho : o.op = .call c) (hb : c.callee = .builtin .append) (hat : c.argTypes.toList = [t, tx]) (har : c.args.toList = [s, x])
    (ht : P.underlying t = some (.slice el)) (htx : P.underlying tx = some (.slice el')) (hn : tsz P el = some n) (hby : tby P el = some bts) (hn0 : n ≠ 0) (hb4 : bts ≤ 4096) (hz : tzeroI P el = some zs) (hzl : zs.length = n) (hs : cOpd s = some s') (hx : cOpd x = some x')
    (hsrc : elemsOf h (x'.ev e) = some news) (hall : news.all (fun d => d.length == n) = true) (ha : appTo el n (s'.ev e) news h = some (v, h'))
    (hρ : Opds X ρ w C h (.app el n s' x') e) (pre : Pre X w C h (foot (.app el n s' x') e) h'.objs.length) : Concl P X ρ o w C h (.app el n s' x') e v h' := by
  have hv := elemsOf_rel hsrc (fun k o hk ho => pre.ok k o (mem_foot (y := x') (by simp [AI.opds]) hk (by simp [AI.cls])) ho) (hρ x x' hx (by simp [AI.opds]))
  obtain ⟨vs, hsr, hvr⟩ := View.src htx hv (all_len hall)
  exact appTo_sound ho hb hat har ht hn hby hn0 hb4 hz hzl rfl (by simp [AI.opds]) (hρ s s' hs (by simp [AI.opds])) hsr hvr ha pre

theorem sound_appS {c : Call} {t tx el bts : Nat} {s x : Operand} {s' x' : Opd} {zs : List IV} {q : ByteArray} (ho : o.op = .call c) (hb : c.callee = .builtin .append) (hat : c.argTypes.toList = [t, tx]) (har : c.args.toList = [s, x])
    (ht : P.underlying t = some (.slice el)) (htx : P.underlying tx = some .string) (hn : tsz P el = some 1) (hby : tby P el = some bts) (hb4 : bts ≤ 4096) (hz : tzeroI P el = some zs) (hzl : zs.length = 1) (hs : cOpd s = some s') (hx : cOpd x = some x')
    (hq : x'.ev e = .iv (.str q)) (ha : appTo el 1 (s'.ev e) (bytesIV q) h = some (v, h'))
    (hρ : Opds X ρ w C h (.appS el s' x') e) (pre : Pre X w C h (foot (.appS el s' x') e) h'.objs.length) : Concl P X ρ o w C h (.appS el s' x') e v h' := by
  have hxr := hρ x x' hx (by simp [AI.opds])
  rw [hq] at hxr
  have hu := hxr.inv_iv.inv_str
  have hsr := Src.ofString (P := P) w htx q
  rw [show q.size = (bytesIV q).length by simp [bytesIV], ← hu] at hsr
  exact appTo_sound ho hb hat har ht hn hby (by omega) hb4 hz hzl rfl (by simp [AI.opds]) (hρ s s' hs (by simp [AI.opds])) hsr (rowRel_bytes q) ha pre
end
end Go.Om
