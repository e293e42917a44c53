/-
  Om: stores and appends; what is built.
-/
import Derived.Test.YtihhnicfkeiglaaOm9
set_option linter.all false
namespace Go.Om
open Go Go.RowKit

section
variable {hh : Nat} {P : Program} {X : Nat → Prop} {w w' : World} {C C' : Conc} {h h' : Hp} {v : AV} {u : Value} {K mod : List Nat} {ρ : Operand → Value} {e : AEnv} {o : Oper} {S : Nat → Prop} {nv : Nat}

/-- Object k lies anew: in its block, or in a new one. -/
theorem Delta.turn {nv lo k ver sz sz' : Nat} {val val' : Value} (hk0 : k < lo) (hC : C k = some (.live ver val sz)) (hd : ∀ k k' b, OwnsB C k b → OwnsB C k' b → k = k') (hlt : ∀ b, LiveB C b → b < w.heap.size)
    (h1 : w'.os = w.os) (h2 : w'.tape = w.tape) (h3 : w'.output = w.output) (h4 : w.heap.size ≤ w'.heap.size) (h5 : ∀ b, b < w.heap.size → blkOf val ≠ some b → w'.heap[b]? = w.heap[b]?)
    (h6 : blkOf val' = blkOf val ∨ blkOf val' = some w.heap.size) (h7 : ∀ b, blkOf val' = some b → b < w'.heap.size) :
    Delta X w C nv [k] lo lo w' (setC C k (.live nv val' sz')) (nv + 1) where
  os := h1
  tape := h2
  output := h3
  size := h4
  blk := fun b hb hk => h5 b hb (fun e => hk k (by simp) ⟨_, _, _, hC, e⟩)
  same := fun n hn _ => setC_ne C _ (by rcases hn with hn | hn; simpa using hn; omega)
  turned := fun n co hn hc => by
    have : n = k := by simpa using hn
    subst this
    exact ⟨_, setC_same _ _ _, .inr fun ver' v s e => by cases e; exact Nat.le_refl _⟩
  fresh := fun n a b => by omega
  liveB := fun b ⟨n, ver', v, s, hc, hb⟩ => by
    by_cases hn : n = k
    · subst hn
      rw [setC_same] at hc
      cases hc
      rcases h6 with h6 | h6
      · exact .inl ⟨n, _, _, _, hC, by rw [← h6]; exact hb⟩
      · rw [h6] at hb
        cases hb
        exact .inr (Nat.le_refl _)
    · rw [setC_ne C _ hn] at hc
      exact .inl ⟨n, _, _, _, hc, hb⟩
  dist := fun _ _ n n' b ⟨a1, a2, a3, c1, b1⟩ ⟨d1, d2, d3, c2, b2⟩ => by
    by_cases hn : n = k <;> by_cases hn' : n' = k
    · rw [hn, hn']
    · subst hn
      rw [setC_same] at c1
      rw [setC_ne C _ hn'] at c2
      cases c1
      rcases h6 with h6 | h6
      · rw [h6] at b1
        exact hd _ _ b ⟨_, _, _, hC, b1⟩ ⟨_, _, _, c2, b2⟩
      · rw [h6] at b1
        cases b1
        have := hlt _ ⟨n', _, _, _, c2, b2⟩
        omega
    · subst hn'
      rw [setC_same] at c2
      rw [setC_ne C _ hn] at c1
      cases c2
      rcases h6 with h6 | h6
      · rw [h6] at b2
        exact hd _ _ b ⟨_, _, _, c1, b1⟩ ⟨_, _, _, hC, b2⟩
      · rw [h6] at b2
        cases b2
        have := hlt _ ⟨n, _, _, _, c1, b1⟩
        omega
    · rw [setC_ne C _ hn] at c1
      rw [setC_ne C _ hn'] at c2
      exact hd _ _ b ⟨_, _, _, c1, b1⟩ ⟨_, _, _, c2, b2⟩
  lt := fun _ b ⟨n, ver', v, s, hc, hb⟩ => by
    by_cases hn : n = k
    · subst hn
      rw [setC_same] at hc
      cases hc
      exact h7 b hb
    · rw [setC_ne C _ hn] at hc
      have := hlt b ⟨n, _, _, _, hc, hb⟩
      omega
  nv := by omega

/-- Object k is written where it lies. -/
theorem Delta.write {nv lo k ver sz g : Nat} {val : Value} (hC : C k = some (.live ver val sz)) (hg : blkOf val = some g)
    (h1 : w'.os = w.os) (h2 : w'.tape = w.tape) (h3 : w'.output = w.output) (h4 : w'.heap.size = w.heap.size) (h5 : ∀ b, b ≠ g → w'.heap[b]? = w.heap[b]?) : Delta X w C nv [k] lo lo w' C nv where
  os := h1
  tape := h2
  output := h3
  size := by omega
  blk := fun b _ hk => h5 b (fun e => hk k (by simp) ⟨_, _, _, hC, by rw [e]; exact hg⟩)
  same := fun _ _ _ => rfl
  turned := fun _ co _ hc => ⟨co, hc, .inl rfl⟩
  fresh := fun n a b => by omega
  liveB := fun _ hb => .inl hb
  dist := fun hd _ => hd
  lt := fun hl b hb => by have := hl b hb; omega
  nv := Nat.le_refl _

theorem ARels.splice {cs ds : List AV} {us vs : List Value} (h1 : ARels w S C nv cs us) (h2 : ARels w S C nv ds vs) {j : Nat} (hj : j + ds.length ≤ cs.length) : ARels w S C nv (Om.splice cs j ds) (us.take j ++ vs ++ us.drop (j + vs.length)) := by
  unfold Om.splice
  rw [← h2.1]
  exact ((h1.take j).append h2).append (h1.drop _)

theorem blk_own {val : Value} {n : Nat} {el sz : Nat} {us : List Value} (hown : Held w el sz val n us) : blkOf val = val.ownBlock := by
  rcases hown.2 with ⟨rfl, _⟩ | ⟨g, cap, cur, rfl, _⟩ <;> rfl

theorem storeCells_fr (P : Program) (g o : Nat) (t : TypeId) (fz : Nat × Nat) : ∀ (vs : List Value) (i : Nat) (cur : Array Value) (w : World), w.heap[g]? = some (.cells cur t fz) → (fz = (0, 0) ∨ cur.size ≤ fz.1) → o + i + vs.length ≤ cur.size → (∀ v ∈ vs, v.oneCell' = true) →
    (storeCells ⟨g, o, none⟩ vs i).run P w = .ok () (w.setRow g (cur.toList.take (o + i) ++ vs ++ cur.toList.drop (o + i + vs.length)).toArray)
  | [], i, cur, w, hg, _, _, _ => by
    simp only [storeCells, List.append_nil, List.length_nil, Nat.add_zero, List.take_append_drop, Array.toArray_toList]
    rw [setRow_self w g cur t fz hg]
    rfl
  | v :: rest, i, cur, w, hg, hfz, hl, h1 => by
    have hi : o + i < cur.size := by simp at hl; omega
    have hadd : (⟨g, o, none⟩ : Addr).add i = ⟨g, o + i, none⟩ := by unfold Addr.add; split <;> simp_all
    have hcell : w.cell? ⟨g, o + i, none⟩ = some cur[o + i] := by simp [World.cell?, hg, hi]
    have hfro : w.frozen? ⟨g, o + i, none⟩ = false := by
      obtain ⟨lo, hi'⟩ := fz
      simp only [World.frozen?, hg, Bool.and_eq_false_iff, decide_eq_false_iff_not]
      rcases hfz with hfz | hfz
      · cases hfz; right; omega
      · left; simp only at hfz; omega
    have hst : (store ((⟨g, o, none⟩ : Addr).add i) v).run P w = .ok () (w.setRow g (cur.setIfInBounds (o + i) v)) := by
      rw [hadd, run_store P w _ v _ (h1 v (by simp)), hcell]
      simp [hfro, setCell_eq_setRow w g (o + i) cur t fz v hg]
    have ih := storeCells_fr P g o t fz rest (i + 1) (cur.setIfInBounds (o + i) v) (w.setRow g (cur.setIfInBounds (o + i) v)) (setRow_heap w g cur _ t _ hg) (by simpa using hfz) (by simp at hl ⊢; omega) (fun x hx => h1 x (by simp [hx]))
    simp only [storeCells, Sem.run_bind, hst, Result.andThen_ok, ih, setRow_setRow]
    congr 3
    have e := list_seg_step cur.toList (o + i) v rest (by simp at hl ⊢; omega)
    simpa [Array.toList_setIfInBounds, Nat.add_assoc] using e

theorem storeVar_run {t g off : Nat} {cur : Array Value} {el : Nat} {fr : Nat × Nat} {val : Value} {us : List Value} (hs : tsz P t = some us.length) (hu : val.cells = us.toArray) (hg : w.heap[g]? = some (.cells cur el fr)) (hfr : fr = (0, 0) ∨ cur.size ≤ fr.1) (hle : off + us.length ≤ cur.size) (h1 : ∀ x ∈ us, x.oneCell' = true) :
    (storeVar t ⟨g, off, none⟩ val).run P w = .ok () (w.setRow g (cur.toList.take off ++ us ++ cur.toList.drop (off + us.length)).toArray) := by
  have hst := storeCells_fr P g off el fr us 0 cur w hg hfr (by simpa using hle) h1
  simp only [Nat.add_zero] at hst
  simp [storeVar, hu, tsz_run hs, hst]
theorem frOf_ok (e n : Nat) : frOf e n = (0, 0) ∨ n ≤ (frOf e n).1 := by
  unfold frOf
  split
  · exact .inl rfl
  · exact .inr (Nat.le_refl _)

/-- A store into a box. -/
theorem sound_st_box {t n k ver bt j : Nat} {p x : Operand} {p' x' : Opd} {cs old : List AV} (ho : o.op = .store t p x) (hn : tsz P t = some n) (hp : cOpd p = some p') (hx : cOpd x = some x') (hpe : p'.ev e = .ptr k ver 0 j) (hcs : cellsOf (x'.ev e) = some cs) (hl : cs.length = n)
    (hk : h.objs[k]? = some (.box bt ver old)) (hle : j + n ≤ old.length) (hρ : Opds X ρ w C h (.st n p' x') e) (pre : Pre X w C h (foot (.st n p' x') e) h.objs.length) :
    Concl P X ρ o w C h (.st n p' x') e (.tup []) { h with objs := h.objs.set k (.box bt ver (splice old j cs)) } := by
  have hkf : k ∈ foot (.st n p' x') e := mem_foot (y := p') (by simp [AI.opds]) (by rw [hpe]; simp [refs, refs1]) (by simp [AI.cls])
  obtain ⟨hv, g, us, hC, hg, hrs⟩ := pre.ok k _ hkf hk
  have hr := hρ p p' hp (by simp [AI.opds])
  rw [hpe] at hr
  obtain ⟨_, _, co, hco, h3⟩ := hr.inv_ptr
  rw [hC] at hco
  cases hco
  obtain ⟨g', hg', hpu⟩ := h3 _ _ rfl
  simp only [blkOf, Option.some.injEq] at hg'
  subst hg'
  simp only [Nat.zero_mul, Nat.zero_add] at hpu
  obtain ⟨vs, hvs, hvr, hone⟩ := cellsOf_rel hcs (hρ x x' hx (by simp [AI.opds]))
  have hvl : vs.length = n := by rw [← hvr.1]; exact hl
  subst hvl
  have hrun := storeVar_run (P := P) (t := t) (off := j) hn hvs hg (.inl rfl) (by simpa [← hrs.1] using hle) hone
  simp only [List.toList_toArray] at hrun
  have D : Delta X w C h.nv [k] h.objs.length h.objs.length (w.setRow g (us.take j ++ vs ++ us.drop (j + vs.length)).toArray) C h.nv :=
    Delta.write hC rfl rfl rfl rfl (setRow_size _ _ _) (fun b hb => setRow_other w g _ hb)
  have E := D.ext (fun n a b => by omega)
  refine ⟨undef, w.setRow g (us.take j ++ vs ++ us.drop (j + vs.length)).toArray, C, .inr ⟨?_, rfl⟩, ?_⟩
  · simp [execOp, ho, hpu, Instr.storeAt, Instr.sureAddr, hrun]
  · have R : Res X w C h [k] (.tup []) { h with objs := h.objs.set k (.box bt ver (splice old j cs)) } undef (w.setRow g (us.take j ++ vs ++ us.drop (j + vs.length)).toArray) C := by
      refine ⟨by simpa using D, .tup [] [] rfl (fun j x u hh => by simp at hh), fun n ob hn hob => ?_, fun n hn hne => ?_, by simp⟩
      · have : n = k := by
          rcases hn with hn | hn
          · simpa using hn
          · simp only at hob
            rw [List.getElem?_eq_none (by simpa using hn)] at hob
            simp at hob
        subst this
        simp only at hob
        rw [List.getElem?_set_self (List.getElem?_eq_some_iff.1 hk).1] at hob
        cases hob
        exact ⟨hv, g, _, hC, setRow_block w g _ _ _ hg, ARels.splice (hrs.ext E) (hvr.ext E) (by rw [hvr.1]; exact hle)⟩
      · simp only
        rw [List.getElem?_set_ne (by simp at hne; omega)]
    have pre' : Pre X w C h (foot (.st vs.length p' x') e) ({ h with objs := h.objs.set k (.box bt ver (splice old j cs)) } : Hp).objs.length := by simpa using pre
    have := R.more pre' (mod' := foot (.st vs.length p' x') e) (fun n hn => by simp at hn; subst hn; exact hkf) (fun n hn => hn)
    simpa [modOf, AI.cls] using this

theorem toIVs_rel {cs : List AV} {ics : List IV} {us : List Value} (hc : toIVs cs = some ics) (hr : ARels w S C nv cs us) : True ∧ ics.length = us.length ∧ ∀ (j : Nat) (x : IV) (u : Value), ics[j]? = some x → us[j]? = some u → IRel w S x u := by
  induction cs generalizing ics us with
  | nil => simp [toIVs] at hc; subst hc; exact ⟨trivial, hr.1, fun j x u hj => by simp at hj⟩
  | cons a r ih =>
    obtain ⟨u, ur, rfl, h1, h2⟩ := hr.uncons
    have hsplit : (∃ x, a = .iv x) ∨ a = .nils := by
      cases a <;> simp only [toIVs] at hc <;> first | exact .inl ⟨_, rfl⟩ | exact .inr rfl | (simp at hc; done)
    obtain ⟨x, hx, hxr⟩ : ∃ x, toIVs (a :: r) = (toIVs r).map (x :: ·) ∧ IRel w S x u := by
      rcases hsplit with ⟨x, rfl⟩ | rfl
      · exact ⟨x, rfl, h1.inv_iv⟩
      · cases h1
        exact ⟨.sl [], rfl, .nil _ _⟩
    rw [hx] at hc
    cases hq : toIVs r with
    | none => rw [hq] at hc; simp at hc
    | some ys =>
      rw [hq] at hc
      simp at hc
      subst hc
      obtain ⟨e1, e2, e3⟩ := ih hq h2
      refine ⟨trivial, by simp [e2], fun j y v hj hv => ?_⟩
      cases j with
      | zero => simp at hj hv; subst hj; subst hv; exact hxr
      | succ j => exact e3 j y v (by simpa using hj) (by simpa using hv)

theorem splice_length {α : Type} {old cs : List α} {j : Nat} (h : j + cs.length ≤ old.length) : (splice old j cs).length = old.length := by
  simp only [splice, List.length_append, List.length_take, List.length_drop]
  omega
theorem splice_get {α : Type} {old cs : List α} {j q : Nat} {x : α} (h : j + cs.length ≤ old.length) (hx : (splice old j cs)[q]? = some x) : (j ≤ q ∧ q < j + cs.length ∧ cs[q - j]? = some x) ∨ ((q < j ∨ j + cs.length ≤ q) ∧ old[q]? = some x) := by
  unfold splice at hx
  by_cases h1 : q < j
  · rw [List.getElem?_append_left (by simp; omega), List.getElem?_append_left (by simp; omega), List.getElem?_take, if_pos h1] at hx
    exact .inr ⟨.inl h1, hx⟩
  · by_cases h2 : q < j + cs.length
    · rw [List.getElem?_append_left (by simp; omega), List.getElem?_append_right (by simp; omega)] at hx
      simp only [List.length_take] at hx
      rw [Nat.min_eq_left (by omega)] at hx
      exact .inl ⟨by omega, h2, hx⟩
    · rw [List.getElem?_append_right (by simp; omega), List.getElem?_drop] at hx
      simp only [List.length_append, List.length_take] at hx
      rw [Nat.min_eq_left (by omega)] at hx
      rw [show j + cs.length + (q - (j + cs.length)) = q by omega] at hx
      exact .inr ⟨.inr (by omega), hx⟩

theorem rowRel_set {sz i j : Nat} {es : List (List IV)} {us vs : List Value} {old ics : List IV} (hr : RowRel w S sz es us) (hl : us.length = es.length * sz) (ho : es[i]? = some old) (hle : j + ics.length ≤ old.length)
    (hv : ics.length = vs.length) (hs : ∀ (q : Nat) (x : IV) (u : Value), ics[q]? = some x → vs[q]? = some u → IRel w S x u) :
    RowRel w S sz (es.set i (splice old j ics)) (us.take (i * sz + j) ++ vs ++ us.drop (i * sz + j + vs.length)) ∧ i * sz + j + vs.length ≤ us.length := by
  have hi : i < es.length := (List.getElem?_eq_some_iff.1 ho).1
  have hol := hr.1 i old ho
  have hb : i * sz + sz ≤ us.length := by
    rw [hl]
    have := Nat.mul_le_mul_right sz (Nat.succ_le_of_lt hi)
    rwa [Nat.succ_mul] at this
  have hbound : i * sz + j + vs.length ≤ us.length := by omega
  refine ⟨⟨fun n d hd => ?_, fun n d q x u h1 h2 h3 => ?_⟩, hbound⟩
  · by_cases hn : i = n
    · subst hn
      rw [List.getElem?_set_self hi] at hd
      cases hd
      rw [splice_length hle]
      exact hol
    · rw [List.getElem?_set_ne hn] at hd
      exact hr.1 n d hd
  · have h3' : (splice us (i * sz + j) vs)[n * sz + q]? = some u := h3
    by_cases hn : i = n
    · subst hn
      rw [List.getElem?_set_self hi] at h1
      cases h1
      rcases splice_get hle h2 with ⟨a1, a2, a3⟩ | ⟨a1, a2⟩
      · rcases splice_get hbound h3' with ⟨b1, b2, b3⟩ | ⟨b1, b2⟩
        · rw [show i * sz + q - (i * sz + j) = q - j by omega] at b3
          exact hs _ x u a3 b3
        · omega
      · rcases splice_get hbound h3' with ⟨b1, b2, b3⟩ | ⟨b1, b2⟩
        · omega
        · exact hr.2 i old q x u ho a2 b2
    · rw [List.getElem?_set_ne hn] at h1
      have hq : q < sz := by
        have := (List.getElem?_eq_some_iff.1 h2).1
        rwa [hr.1 n d h1] at this
      rcases splice_get hbound h3' with ⟨b1, b2, b3⟩ | ⟨b1, b2⟩
      · exfalso
        rcases Nat.lt_or_ge n i with hlt | hge
        · have := Nat.mul_le_mul_right sz (Nat.succ_le_of_lt hlt)
          rw [Nat.succ_mul] at this
          omega
        · have hgt : i < n := by omega
          have := Nat.mul_le_mul_right sz (Nat.succ_le_of_lt hgt)
          rw [Nat.succ_mul] at this
          omega
      · exact hr.2 n d q x u h1 h2 b2

theorem take_splice {α : Type} {cur vs : List α} {q N : Nat} (h1 : q + vs.length ≤ N) (h2 : N ≤ cur.length) :
    (cur.take q ++ vs ++ cur.drop (q + vs.length)).take N = (cur.take N).take q ++ vs ++ (cur.take N).drop (q + vs.length) := by
  have hA : (cur.take q ++ vs).length = q + vs.length := by simp; omega
  rw [List.take_append, List.take_of_length_le (by omega), hA, List.take_take, Nat.min_eq_left (by omega), List.drop_take]

/-- A store into a row. -/
theorem sound_st_row {t n k ver el sz i j : Nat} {p x : Operand} {p' x' : Opd} {cs : List AV} {ics old : List IV} {es : List (List IV)} (ho : o.op = .store t p x) (hn : tsz P t = some n) (hp : cOpd p = some p') (hx : cOpd x = some x') (hpe : p'.ev e = .ptr k ver i j) (hcs : cellsOf (x'.ev e) = some cs) (hl : cs.length = n)
    (hk : h.objs[k]? = some (.row el sz ver es)) (hic : toIVs cs = some ics) (hold : es[i]? = some old) (hle : j + n ≤ old.length) (hρ : Opds X ρ w C h (.st n p' x') e) (pre : Pre X w C h (foot (.st n p' x') e) h.objs.length) :
    Concl P X ρ o w C h (.st n p' x') e (.tup []) { h with objs := h.objs.set k (.row el sz ver (es.set i (splice old j ics))) } := by
  have hkf : k ∈ foot (.st n p' x') e := mem_foot (y := p') (by simp [AI.opds]) (by rw [hpe]; simp [refs, refs1]) (by simp [AI.cls])
  obtain ⟨hv, hz, val, us, hC, hown, hrr⟩ := pre.ok k _ hkf hk
  have hr := hρ p p' hp (by simp [AI.opds])
  rw [hpe] at hr
  obtain ⟨_, _, co, hco, h3⟩ := hr.inv_ptr
  rw [hC] at hco
  cases hco
  obtain ⟨g, hg', hpu⟩ := h3 _ _ rfl
  obtain ⟨vs, hvs, hvr, hone⟩ := cellsOf_rel hcs (hρ x x' hx (by simp [AI.opds]))
  have hvl : vs.length = n := by rw [← hvr.1]; exact hl
  subst hvl
  obtain ⟨e1, e2, e3⟩ := toIVs_rel hic hvr
  obtain ⟨hrow2, hbound⟩ := rowRel_set hrr hown.1 hold (by rw [e2]; exact hle) e2 e3
  rcases hown.2 with ⟨rfl, h00⟩ | ⟨g', cap, cur, rfl, _, hg, hcap, hcm, hcur, htake⟩
  · simp [blkOf] at hg'
  · simp only [blkOf, Option.some.injEq] at hg'
    subst hg'
    have hml : es.length * sz ≤ cap * sz := Nat.mul_le_mul_right _ hcap
    have hul : us.length = es.length * sz := hown.1
    have hrun := storeVar_run (P := P) (t := t) (off := i * sz + j) hn hvs hg (frOf_ok _ _) (by omega) hone
    have hsame : (cur.toList.take (i * sz + j) ++ vs ++ cur.toList.drop (i * sz + j + vs.length)).toArray.size = cur.size := by
      simp only [List.size_toArray, List.length_append, List.length_take, List.length_drop, Array.length_toList]
      omega
    have D : Delta X w C h.nv [k] h.objs.length h.objs.length (w.setRow g' (cur.toList.take (i * sz + j) ++ vs ++ cur.toList.drop (i * sz + j + vs.length)).toArray) C h.nv :=
      Delta.write hC rfl rfl rfl rfl (setRow_size _ _ _) (fun b hb => setRow_other w g' _ hb)
    have E := D.ext (fun n a b => by omega)
    refine ⟨undef, w.setRow g' (cur.toList.take (i * sz + j) ++ vs ++ cur.toList.drop (i * sz + j + vs.length)).toArray, C, .inr ⟨?_, rfl⟩, ?_⟩
    · simp [execOp, ho, hpu, Instr.storeAt, Instr.sureAddr, hrun]
    · have R : Res X w C h [k] (.tup []) { h with objs := h.objs.set k (.row el sz ver (es.set i (splice old j ics))) } undef (w.setRow g' (cur.toList.take (i * sz + j) ++ vs ++ cur.toList.drop (i * sz + j + vs.length)).toArray) C := by
        refine ⟨by simpa using D, .tup [] [] rfl (fun j x u hh => by simp at hh), fun n ob hn hob => ?_, fun n hn hne => ?_, by simp⟩
        · have : n = k := by
            rcases hn with hn | hn
            · simpa using hn
            · simp only at hob
              rw [List.getElem?_eq_none (by simpa using hn)] at hob
              simp at hob
          subst this
          simp only at hob
          rw [List.getElem?_set_self (List.getElem?_eq_some_iff.1 hk).1] at hob
          cases hob
          refine ⟨hv, hz, _, us.take (i * sz + j) ++ vs ++ us.drop (i * sz + j + vs.length), hC, ⟨?_, .inr ⟨g', cap, _, by rw [List.length_set], Nat.zero_le _, (by rw [hsame]; exact setRow_block w g' _ _ _ hg), by rw [List.length_set]; exact hcap, hcm, ?_, ?_⟩⟩, ObjOk.mono_row E.lasts hrow2⟩
          · simp only [List.length_append, List.length_take, List.length_drop, List.length_set]
            omega
          · simp only [List.size_toArray, List.length_append, List.length_take, List.length_drop, Array.length_toList]
            omega
          · rw [List.length_set]
            rw [← htake]
            have hcl : es.length * sz ≤ cur.toList.length := by have hq : cur.toList.length = cap * sz := (Array.length_toList (xs := cur)).trans hcur; omega
            exact take_splice (N := es.length * sz) (by omega) hcl
        · simp only
          rw [List.getElem?_set_ne (by simp at hne; omega)]
      have pre' : Pre X w C h (foot (.st vs.length p' x') e) ({ h with objs := h.objs.set k (.row el sz ver (es.set i (splice old j ics))) } : Hp).objs.length := by simpa using pre
      have := R.more pre' (mod' := foot (.st vs.length p' x') e) (fun n hn => by simp at hn; subst hn; exact hkf) (fun n hn => hn)
      simpa [modOf, AI.cls] using this
end
end Go.Om
