/-
  Om: what is built: structs, literals of slices, makes; strings out of bytes; lengths.
-/
import Derived.Test.YtihhnicfkeiglaaOm11
set_option linter.all false
namespace Go.Om
open Go Go.RowKit

section
variable {hh : Nat} {P : Program} {X : Nat → Prop} {w w' : World} {C C' : Conc} {h h' : Hp} {v : AV} {u : Value} {K mod : List Nat} {ρ : Operand → Value} {e : AEnv} {o : Oper} {S : Nat → Prop} {nv : Nat}

theorem foldl_splice (off : Nat) : ∀ (cs : List Value) (k : Nat) (A : Array Value), off + k + cs.length ≤ A.size →
    ((cs.zipIdx k).foldl (fun (B : Array Value) (p : Value × Nat) => B.setIfInBounds (off + p.2) p.1) A) = (splice A.toList (off + k) cs).toArray
  | [], k, A, _ => by simp [splice]
  | c :: r, k, A, hl => by
    simp only [List.length_cons] at hl
    rw [List.zipIdx_cons, List.foldl_cons]
    rw [foldl_splice off r (k + 1) (A.setIfInBounds (off + k) c) (by simp; omega)]
    congr 1
    have := list_seg_step A.toList (off + k) c r (by simp; omega)
    simp only [splice, Array.toList_setIfInBounds]
    rw [show off + (k + 1) = off + k + 1 by omega]
    exact this
theorem fill_step {place : Nat → Option (Nat × Nat)} {A : Array Value} {i off n : Nat} {val : Value} {us : List Value} {rest : List (Nat × Value)} (hp : place i = some (off, n)) (hc : val.cells = us.toArray) (hn : us.length = n) (hle : off + n ≤ A.size) :
    Instr.fill place A ((i, val) :: rest) = Instr.fill place (splice A.toList off us).toArray rest := by
  have h1 := foldl_splice off us 0 A (by omega)
  simp only [Nat.add_zero] at h1
  simp only [Instr.fill, hp, hc, List.size_toArray, hn]
  rw [if_neg (by simp; omega)]
  congr 1
  rw [← h1, ← Array.foldl_toList]
  simp

theorem cParts_fill {pl : List (Nat × Nat)} {parts : List (Nat × Operand)} {ps : List (Nat × Nat × Opd)} {cs cs' : List AV} {us : List Value} {place : Nat → Option (Nat × Nat)} (hplace : ∀ i p, pl[i]? = some p → place i = some p) (hc : cParts P pl parts = some ps) (hf : fillA e ps cs = some cs') (hr : ARels w S C nv cs us)
    (hρ : ∀ x y, cOpd x = some y → y ∈ ps.map (fun p => p.2.2) → ARel w S C nv (y.ev e) (ρ x)) :
    ∃ us', Instr.fill place us.toArray (parts.map fun (i, x) => (i, ρ x)) = some us'.toArray ∧ ARels w S C nv cs' us' := by
  induction parts generalizing ps cs us with
  | nil =>
    simp [cParts] at hc
    subst hc
    simp [fillA] at hf
    subst hf
    exact ⟨us, rfl, hr⟩
  | cons p r ih =>
    obtain ⟨i, x⟩ := p
    simp only [cParts] at hc
    cases hpl : pl[i]? with
    | none => rw [hpl] at hc; simp at hc
    | some pr =>
      obtain ⟨off, n⟩ := pr
      rw [hpl] at hc
      simp only at hc
      cases hx : cOpd x with
      | none => rw [hx] at hc; simp at hc
      | some y =>
        rw [hx] at hc
        simp only [Option.bind_some] at hc
        cases hq : cParts P pl r with
        | none => rw [hq] at hc; simp at hc
        | some qs =>
          rw [hq] at hc
          simp only [Option.map_some, Option.some.injEq] at hc
          subst hc
          simp only [fillA] at hf
          cases hcl : cellsOf (y.ev e) with
          | none => rw [hcl] at hf; simp at hf
          | some d =>
            rw [hcl] at hf
            simp only at hf
            split at hf
            · rename_i hdn
              split at hf
              · rename_i hle
                obtain ⟨vs, hvs, hvr, _⟩ := cellsOf_rel hcl (hρ x y hx (by simp))
                have hvl : vs.length = n := by rw [← hvr.1]; exact hdn
                obtain ⟨us', h1, h2⟩ := ih hq hf (us := splice us off vs) (by
                  have := ARels.splice (j := off) hr hvr (by rw [hdn]; exact hle)
                  exact this) (fun x y a b => hρ x y a (by simp at b ⊢; exact .inr b))
                refine ⟨us', ?_, h2⟩
                rw [List.map_cons, fill_step (off := off) (n := n) (us := vs) (hplace _ _ hpl) hvs hvl (by simp [← hr.1, hle])]
                simpa using h1
              · simp at hf
            · simp at hf

theorem places_run {fs : List Field} {pl : List (Nat × Nat)} (hp : places P fs = some pl) : (fs.mapM fun f => (Prod.mk f.offset <$> sizeOf f.type : Sem (Nat × Nat))).run P w = .ok pl w := by
  induction fs generalizing pl with
  | nil => simp [places] at hp; subst hp; simp
  | cons f r ih =>
    simp only [places] at hp
    cases hs : tsz P f.type with
    | none => rw [hs] at hp; simp at hp
    | some n =>
      rw [hs] at hp
      cases hq : places P r with
      | none => rw [hq] at hp; simp at hp
      | some qs =>
        rw [hq] at hp
        simp at hp
        subst hp
        simp [List.mapM_cons, tsz_run hs, ih hq]

theorem sound_build {t : Nat} {parts : Array (Nat × Operand)} {fs : Array Field} {pl : List (Nat × Nat)} {ps : List (Nat × Nat × Opd)} {zero cs : List AV} (ho : o.op = .build t parts) (ht : P.underlying t = some (.struct fs)) (hpl : places P fs.toList = some pl) (hps : cParts P pl parts.toList = some ps)
    (hz : tzero P t = some zero) (hf : fillA e ps zero = some cs) (hρ : Opds X ρ w C h (.build zero ps) e) : Concl P X ρ o w C h (.build zero ps) e (.agg cs) h := by
  unfold tzero at hz
  cases hi : P.info? t with
  | none => rw [hi] at hz; simp at hz
  | some i =>
    cases hzz : i.zero with
    | none => simp [hi, hzz] at hz
    | some z =>
      simp only [hi, hzz, Option.bind_some, Option.map_some, Option.some.injEq] at hz
      subst hz
      obtain ⟨us', h1, h2⟩ := cParts_fill (w := w) (S := Shut X C) (C := C) (nv := h.nv) (ρ := ρ) (place := fun x => pl.toArray[x]?) (fun i p hh => by simpa using hh) hps hf (cval1s_rel z.cells.toList) (fun x y a b => hρ x y a (by simpa [AI.opds] using b))
      have hm : (fs.mapM fun f => (Prod.mk f.offset <$> sizeOf f.type : Sem (Nat × Nat))).run P w = .ok pl.toArray w := by
        rw [Array.mapM_eq_mapM_toList]
        simp [places_run hpl]
      refine ⟨.agg us'.toArray, w, C, .inl ?_, Res.pure (.agg _ _ h2.1 h2.2)⟩
      have h1' : Instr.fill (fun x => pl.toArray[x]?) z.cells (parts.map fun (i, x) => (i, ρ x)).toList = some us'.toArray := by
        have hm : (parts.map fun (i, x) => (i, ρ x)).toList = parts.toList.map fun (i, x) => (i, ρ x) := Array.toList_map ..
        rw [hm]
        simpa using h1
      simp [execOp, ho, Instr.build, zeroValue, typeInfo, hi, hzz, run_underlying ht, hm]
      simp at h1'
      simp [h1']

theorem sound_buildA {t len el n : Nat} {parts : Array (Nat × Operand)} {ps : List (Nat × Nat × Opd)} {zero cs : List AV} (ho : o.op = .build t parts) (ht : P.underlying t = some (.array len el)) (hn : tsz P el = some n) (hps : cParts P ((List.range len).map fun i => (i * n, n)) parts.toList = some ps)
    (hz : tzero P t = some zero) (hf : fillA e ps zero = some cs) (hρ : Opds X ρ w C h (.build zero ps) e) : Concl P X ρ o w C h (.build zero ps) e (.agg cs) h := by
  unfold tzero at hz
  cases hi : P.info? t with
  | none => rw [hi] at hz; simp at hz
  | some i =>
    cases hzz : i.zero with
    | none => simp [hi, hzz] at hz
    | some z =>
      simp only [hi, hzz, Option.bind_some, Option.map_some, Option.some.injEq] at hz
      subst hz
      obtain ⟨us', h1, h2⟩ := cParts_fill (w := w) (S := Shut X C) (C := C) (nv := h.nv) (ρ := ρ) (place := fun i => some (i * n, n)) (fun i p hh => by
        rw [List.getElem?_map] at hh
        by_cases hi : i < len
        · rw [List.getElem?_range hi] at hh; simpa using hh
        · rw [List.getElem?_eq_none (by simpa using hi)] at hh; simp at hh) hps hf (cval1s_rel z.cells.toList) (fun x y a b => hρ x y a (by simpa [AI.opds] using b))
      refine ⟨.agg us'.toArray, w, C, .inl ?_, Res.pure (.agg _ _ h2.1 h2.2)⟩
      have h1' : Instr.fill (fun i => some (i * n, n)) z.cells (parts.map fun (i, x) => (i, ρ x)).toList = some us'.toArray := by
        have hm : (parts.map fun (i, x) => (i, ρ x)).toList = parts.toList.map fun (i, x) => (i, ρ x) := Array.toList_map ..
        rw [hm]
        simpa using h1
      simp [execOp, ho, Instr.build, zeroValue, typeInfo, hi, hzz, run_underlying ht, tsz_run hn]
      simp at h1'
      simp [h1']

/-- The literal's parts, one behind the other. -/
theorem parts_fill {parts : List (Nat × Operand)} {ps : List (Nat × Opd)} {ys : List (Nat × List IV)} {es es' : List (List IV)} {us : List Value} {n : Nat} (hc : cPartsS parts = some ps) (hp : partsI e n ps = some ys) (hs : setParts ys es = some es') (hr : RowRel w S n es us) (hl : us.length = es.length * n)
    (hρ : ∀ x y, cOpd x = some y → y ∈ ps.map (fun p => p.2) → ARel w S C nv (y.ev e) (ρ x)) :
    ∃ us', Instr.fill (fun i => some (i * n, n)) us.toArray (parts.map fun (i, x) => (i, ρ x)) = some us'.toArray ∧ RowRel w S n es' us' ∧ us'.length = us.length ∧ es'.length = es.length := by
  induction parts generalizing ps ys es us with
  | nil =>
    simp [cPartsS] at hc
    subst hc
    simp [partsI] at hp
    subst hp
    simp [setParts] at hs
    subst hs
    exact ⟨us, rfl, hr, rfl, rfl⟩
  | cons p r ih =>
    obtain ⟨i, x⟩ := p
    simp only [cPartsS] at hc
    cases hx : cOpd x with
    | none => rw [hx] at hc; simp at hc
    | some y =>
      rw [hx] at hc
      simp only [Option.bind_some] at hc
      cases hq : cPartsS r with
      | none => rw [hq] at hc; simp at hc
      | some qs =>
        rw [hq] at hc
        simp only [Option.map_some, Option.some.injEq] at hc
        subst hc
        simp only [partsI] at hp
        cases hcl : cellsOf (y.ev e) with
        | none => rw [hcl] at hp; simp at hp
        | some d =>
          rw [hcl] at hp
          simp only at hp
          cases hd : toIVs d with
          | none => rw [hd] at hp; simp at hp
          | some z =>
            rw [hd] at hp
            simp only [Option.bind_some] at hp
            split at hp
            · rename_i hzn
              cases hq2 : partsI e n qs with
              | none => rw [hq2] at hp; simp at hp
              | some zs =>
                rw [hq2] at hp
                simp only [Option.map_some, Option.some.injEq] at hp
                subst hp
                simp only [setParts] at hs
                split at hs
                · rename_i hi
                  obtain ⟨vs, hvs, hvr, _⟩ := cellsOf_rel hcl (hρ x y hx (by simp))
                  obtain ⟨_, e2, e3⟩ := toIVs_rel hd hvr
                  have hvl : vs.length = n := by omega
                  have hold := List.getElem?_eq_getElem hi
                  have hol := hr.1 i _ hold
                  have hsp : splice (es[i]) 0 z = z := by simp [splice, hol, hzn]
                  obtain ⟨hrow, hb⟩ := rowRel_set (j := 0) hr hl hold (by omega) e2 e3
                  rw [hsp] at hrow
                  simp only [Nat.add_zero] at hrow hb
                  have hlen : (us.take (i * n) ++ vs ++ us.drop (i * n + vs.length)).length = us.length := by
                    simp only [List.length_append, List.length_take, List.length_drop]
                    omega
                  obtain ⟨us', h1, h2, h3, h4⟩ := ih hq hq2 hs hrow (by rw [hlen, List.length_set]; exact hl) (fun x y a b => hρ x y a (by simp at b ⊢; exact .inr b))
                  refine ⟨us', ?_, h2, by rw [h3, hlen], by rw [h4, List.length_set]⟩
                  rw [List.map_cons, fill_step (off := i * n) (n := n) (us := vs) rfl hvs hvl (by simp; omega)]
                  simpa [splice] using h1
                · simp at hs
            · simp at hp

theorem rowRel_zero {n len : Nat} {z : Value} {zs : List IV} (hz : toIVs (z.cells.toList.map cval1) = some zs) (hn : z.cells.size = n) (h0 : 0 < n) : RowRel w S n (List.replicate len zs) (((Array.range (len * n)).map fun i => z.cells[i % z.cells.size]!).toList) := by
  have hl := toIVs_length hz
  have hrel := toIVs_rel hz (cval1s_rel (w := w) (S := S) (C := fun _ => none) (nv := 0) z.cells.toList)
  refine ⟨fun i d hd => ?_, fun i d j x u h1 h2 h3 => ?_⟩
  · have : d = zs := by
      have := List.mem_of_getElem? hd
      exact (List.mem_replicate.1 this).2
    subst this
    simp at hl
    omega
  · have : d = zs := by
      have := List.mem_of_getElem? h1
      exact (List.mem_replicate.1 this).2
    subst this
    have hj : j < n := by
      have := (List.getElem?_eq_some_iff.1 h2).1
      simp at hl
      omega
    have hi : i * n + j < len * n := by
      have := (List.getElem?_eq_some_iff.1 h3).1
      simpa using this
    have hu : u = z.cells[(i * n + j) % n]! := by
      simp only [Array.toList_map, Array.toList_range, List.getElem?_map, List.getElem?_range hi, Option.map_some, Option.some.injEq, hn] at h3
      exact h3.symm
    rw [Nat.mul_comm, Nat.mul_add_mod, Nat.mod_eq_of_lt hj] at hu
    refine hrel.2.2 j x u h2 ?_
    rw [hu]
    have : j < z.cells.size := by omega
    simp [this]

theorem sound_bslice {t el n len : Nat} {parts : Array (Nat × Operand)} {ps : List (Nat × Opd)} {zs : List IV} {ys : List (Nat × List IV)} {es : List (List IV)} (ho : o.op = .buildSlice t len parts) (ht : P.underlying t = some (.slice el)) (hn : tsz P el = some n) (hn0 : n ≠ 0) (hz : tzeroI P el = some zs) (hzl : zs.length = n)
    (hps : cPartsS parts.toList = some ps) (helt : el < 4294967296) (hle : len * n ≤ 16777216) (hp : partsI e n ps = some ys) (hs : setParts ys (List.replicate len zs) = some es) (hρ : Opds X ρ w C h (.bslice el n zs len ps) e) (pre : Pre X w C h K (h.objs.length + 1)) :
    Concl P X ρ o w C h (.bslice el n zs len ps) e (.osl h.objs.length h.nv) ⟨h.objs ++ [.row el n h.nv es], h.nv + 1⟩ := by
  obtain ⟨i, z, hi, hin, hiz, hzs, hzi⟩ := elem_info hn hz hzl
  have hpos : 0 < n := Nat.pos_of_ne_zero hn0
  have hr0 := rowRel_zero (w := w) (S := Shut X C) (len := len) hzi hzs hpos
  obtain ⟨us, h1, h2, h3, h4⟩ := parts_fill (C := C) (nv := h.nv) (ρ := ρ) hps hp hs hr0 (by simp) (fun x y a b => hρ x y a (by simpa [AI.opds] using b))
  have hel : es.length = len := by rw [h4]; simp
  have hul : us.length = es.length * n := by rw [h3, hel]; simp
  have R := Res.newRow pre el n helt hpos (extra := []) es.length h2 hul (Nat.le_refl _) (by
    have : len ≤ 16777216 := Nat.le_trans (Nat.le_mul_of_pos_right len hpos) hle
    simp only [maxLen]
    omega) (by simp [hul])
  refine ⟨_, _, _, .inl ?_, R⟩
  have h1' : Instr.fill (fun i => some (i * n, n)) ((Array.range (len * n)).map fun i => z.cells[i % z.cells.size]!) (parts.map fun (i, x) => (i, ρ x)).toList = some us.toArray := by
    have hm : (parts.map fun (i, x) => (i, ρ x)).toList = parts.toList.map fun (i, x) => (i, ρ x) := Array.toList_map ..
    rw [hm]
    rw [Array.toArray_toList] at h1
    exact h1
  have hnot : ¬ (16777216 < len * n) := by omega
  by_cases h00 : len * n = 0
  · have hA : ∀ q : Array Value, (Array.range (len * n)).map (fun i => q[i % q.size]!) = #[] := fun q => by rw [h00]; simp
    rw [hA] at h1'
    simp at h1'
    simp [execOp, ho, Instr.buildSlice, run_underlying ht, tsz_run hn, newRow, hel, hnot, h00]
    have hA2 : (Array.range 0).map (fun _ => (default : Value)) = #[] := by simp
    rw [hA2, h1']
    simp
  · simp at h1'
    simp [execOp, ho, Instr.buildSlice, run_underlying ht, tsz_run hn, newRow, h1', hel, hnot, h00, zeroValue, typeInfo, hi, hiz]
end
end Go.Om
