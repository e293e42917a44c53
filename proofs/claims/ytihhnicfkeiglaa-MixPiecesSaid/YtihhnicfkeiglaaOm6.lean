/-
  Om: rows that are read, indexed and cut.
-/
import Derived.Test.YtihhnicfkeiglaaOm5
set_option linter.all false
namespace Go.Om
open Go Go.RowKit

section
variable {hh : Nat} {P : Program} {X : Nat → Prop} {w w' : World} {C C' : Conc} {h h' : Hp} {v : AV} {u : Value} {K mod : List Nat} {ρ : Operand → Value} {e : AEnv} {o : Oper} {S : Nat → Prop} {nv : Nat}

/-- A slice value that reads as these elements. -/
def View (w : World) (S : Nat → Prop) (es : List (List IV)) (u : Value) : Prop :=
  ∃ (a : Option Addr) (c : Nat), u = .slice a es.length c ∧ es.length ≤ c ∧
    (es.length = 0 ∨ ∃ (b off sz : Nat) (g : Nat → Nat → Value), a = some ⟨b, off, none⟩ ∧ (∀ (i : Nat) (d : List IV), es[i]? = some d → d.length = sz) ∧
      ∀ (i : Nat) (d : List IV) (j : Nat) (x : IV), es[i]? = some d → d[j]? = some x → w.cell? ⟨b, off + (i * sz + j), none⟩ = some (g i j) ∧ IRel w S x (g i j))

theorem IRel.view {es : List (List IV)} (hr : IRel w S (.sl es) u) : View w S es u := by
  cases hr with
  | nil a c => exact ⟨a, c, rfl, Nat.zero_le _, .inl rfl⟩
  | sl es b off c sz g hc hl hs hr => exact ⟨_, c, rfl, hc, .inr ⟨b, off, sz, g, rfl, hl, fun i d j x h1 h2 => ⟨(hs i d j x h1 h2).2, hr i d j x h1 h2⟩⟩⟩

/-- An own row's facts. -/
theorem rowAt_rel {k ver t sz : Nat} {es : List (List IV)} (hc : rowAt h k ver = some (t, sz, es)) (hok : ∀ o, h.objs[k]? = some o → ObjOk w S C nv k o) :
    h.objs[k]? = some (.row t sz ver es) ∧ ver < nv ∧ 0 < sz ∧ ∃ val us, C k = some (.live ver val sz) ∧ Held w t sz val es.length us ∧ RowRel w S sz es us := by
  unfold rowAt at hc
  split at hc
  · rename_i t' sz' v' es' hk
    split at hc
    · rename_i hv
      cases hc
      subst hv
      exact ⟨hk, hok _ hk⟩
    · simp at hc
  · simp at hc

theorem own_view {t sz : Nat} {es : List (List IV)} {val : Value} {us : List Value} (hown : Held w t sz val es.length us) (hrow : RowRel w S sz es us) : View w S es val := by
  rcases hown.2 with ⟨rfl, h0⟩ | ⟨g, cap, cur, rfl, _, hg, hn, hm, hcur, htake⟩
  · exact ⟨none, 0, by rw [h0], by omega, .inl h0⟩
  · refine ⟨_, cap, rfl, hn, .inr ⟨g, 0, sz, fun i j => us.getD (i * sz + j) undef, rfl, hrow.1, fun i d j x h1 h2 => ?_⟩⟩
    have hi : i < es.length := (List.getElem?_eq_some_iff.1 h1).1
    have hd := hrow.1 i d h1
    have hj : j < d.length := (List.getElem?_eq_some_iff.1 h2).1
    have hb : i * sz + j < us.length := by
      rw [hown.1]
      have := Nat.mul_le_mul_right sz (Nat.succ_le_of_lt hi)
      rw [Nat.succ_mul] at this
      omega
    have hu : us[i * sz + j]? = some (us.getD (i * sz + j) undef) := by simp [List.getD, hb]
    refine ⟨?_, hrow.2 i d j x _ h1 h2 hu⟩
    have := hown.cells (g := g) (by simp [Value.ownBlock]) _ _ hu
    rw [Nat.zero_add]
    exact this

theorem View.sub {es : List (List IV)} {sz : Nat} {a : Option Addr} {n c : Nat} (hv : View w S es (.slice a n c)) {off len : Nat} (hle : off + len ≤ es.length) {a' : Option Addr} {c' : Nat} (hc : len ≤ c')
    (ha : len = 0 ∨ ∃ b o sz', a = some ⟨b, o, none⟩ ∧ a' = some ⟨b, o + off * sz', none⟩ ∧ ∀ (i : Nat) (d : List IV), es[i]? = some d → d.length = sz') : View w S ((es.drop off).take len) (.slice a' len c') := by
  have hl : ((es.drop off).take len).length = len := by simp; omega
  obtain ⟨a0, c0, he, _, h2⟩ := hv
  refine ⟨a', c', by rw [hl], by rw [hl]; exact hc, ?_⟩
  rcases ha with ha | ⟨b, o, sz', rfl, rfl, hsz⟩
  · exact .inl (by rw [hl]; exact ha)
  · by_cases h0 : len = 0
    · exact .inl (by rw [hl]; exact h0)
    · rcases h2 with h2 | ⟨b2, o2, sz2, g, hab, hs2, hc2⟩
      · omega
      · cases he
        cases hab
        obtain ⟨d0, hd0⟩ : ∃ d0, es[0]? = some d0 := ⟨es[0]'(by omega), List.getElem?_eq_getElem (by omega)⟩
        have e1 := hsz 0 d0 hd0
        have e2 := hs2 0 d0 hd0
        have e3 : sz2 = sz' := by omega
        subst e3
        refine .inr ⟨b, o + off * sz2, sz2, fun i j => g (off + i) j, rfl, fun i d hd => ?_, fun i d j x h1 h3 => ?_⟩
        · rw [List.getElem?_take] at hd
          split at hd
          · rw [List.getElem?_drop] at hd; exact hs2 _ d hd
          · simp at hd
        · rw [List.getElem?_take] at h1
          split at h1
          · rw [List.getElem?_drop] at h1
            have := hc2 _ d j x h1 h3
            rw [Nat.add_mul] at this
            refine ⟨?_, this.2⟩
            rw [← this.1]
            congr 2
            omega
          · simp at h1

theorem elemsOf_rel {x : AV} {es : List (List IV)} (hx : elemsOf h x = some es) (hok : ∀ k o, k ∈ refs x → h.objs[k]? = some o → ObjOk w S C nv k o) (hr : ARel w S C nv x u) : View w S es u := by
  cases x with
  | iv x =>
    cases x <;> simp [elemsOf] at hx
    subst hx
    exact hr.inv_iv.view
  | nils =>
    simp only [elemsOf, Option.some.injEq] at hx
    subst hx
    cases hr
    exact ⟨none, 0, rfl, Nat.le_refl _, .inl rfl⟩
  | osl k ver =>
    simp only [elemsOf] at hx
    cases hrow : rowAt h k ver with
    | none => rw [hrow] at hx; simp at hx
    | some r =>
      obtain ⟨t, sz, es'⟩ := r
      rw [hrow] at hx
      simp at hx
      subst hx
      obtain ⟨_, _, _, val, us, hC, hown, hrr⟩ := rowAt_rel hrow (fun o ho => hok k o (by simp [refs, refs1]) ho)
      obtain ⟨_, _, co, hco, hh⟩ := hr.inv_osl
      rw [hC] at hco
      cases hco
      rw [hh _ _ rfl]
      exact own_view hown hrr
  | osub k ver off len =>
    simp only [elemsOf] at hx
    cases hrow : rowAt h k ver with
    | none => rw [hrow] at hx; simp at hx
    | some r =>
      obtain ⟨t, sz, es'⟩ := r
      rw [hrow] at hx
      simp only [Option.bind_some] at hx
      split at hx
      · rename_i hle
        cases hx
        obtain ⟨_, _, _, val, us, hC, hown, hrr⟩ := rowAt_rel hrow (fun o ho => hok k o (by simp [refs, refs1]) ho)
        obtain ⟨_, _, co, hco, hh⟩ := hr.inv_osub
        rw [hC] at hco
        cases hco
        obtain ⟨a, c, rfl, hlc, h3⟩ := hh _ _ rfl
        have hv := own_view hown hrr
        rcases hown.2 with ⟨rfl, h0⟩ | ⟨g, cap, cur, rfl, _⟩
        · exact hv.sub (sz := sz) hle hlc (.inl (by omega))
        · refine hv.sub (sz := sz) hle hlc ?_
          rcases h3 with h3 | ⟨g', n', cap', he, ha⟩
          · exact .inl h3
          · cases he
            exact .inr ⟨g, 0, sz, rfl, by rw [ha]; simp, hrr.1⟩
      · simp at hx
  | _ => simp [elemsOf] at hx

theorem View.elem {es : List (List IV)} (hv : View w S es u) {i : Nat} {d : List IV} (hd : es[i]? = some d) {sz : Nat} (hz : d.length = sz) (hS : ∀ (b off c : Nat), u = .slice (some ⟨b, off, none⟩) es.length c → ∀ (j : Nat) (x : IV), d[j]? = some x → ¬ S b) :
    ∃ b off c, u = .slice (some ⟨b, off, none⟩) es.length c ∧ ARel w S C nv (.iptr d) (.pointer (some ⟨b, off + i * sz, none⟩)) := by
  obtain ⟨a, c, rfl, _, h2⟩ := hv
  have hi : i < es.length := (List.getElem?_eq_some_iff.1 hd).1
  rcases h2 with h2 | ⟨b, off, sz', g, rfl, hs, hc⟩
  · omega
  · have : sz' = sz := by rw [← hs i d hd]; exact hz
    subst this
    refine ⟨b, off, c, rfl, .iptr d b _ (g i) fun j x hx => ?_⟩
    obtain ⟨h1, h3⟩ := hc i d j x hd hx
    exact ⟨hS b off c rfl j x hx, by rw [Nat.add_assoc]; exact h1, h3⟩

theorem sound_iadrS {t el n : Nat} {x ix : Operand} {y iy : Opd} {q : Int} (ho : o.op = .indexAddr t x ix) (ht : P.underlying t = some (.slice el)) (hn : tsz P el = some n) (hx : cOpd x = some y) (hix : cOpd ix = some iy)
    (hq : aint (iy.ev e) = some q) (h0 : 0 ≤ q)
    (hv : (∃ es d, y.ev e = .iv (.sl es) ∧ es[q.toNat]? = some d ∧ d.length = n ∧ v = .iptr d) ∨
      (∃ k ver t' es, y.ev e = .osl k ver ∧ rowAt h k ver = some (t', n, es) ∧ q.toNat < es.length ∧ v = .ptr k ver q.toNat 0) ∨
      (∃ k ver off len t' es, y.ev e = .osub k ver off len ∧ rowAt h k ver = some (t', n, es) ∧ q.toNat < len ∧ off + len ≤ es.length ∧ v = .ptr k ver (off + q.toNat) 0))
    (hρ : Opds X ρ w C h (.iadrS n y iy) e) (pre : Pre X w C h (foot (.iadrS n y iy) e) hh) : Concl P X ρ o w C h (.iadrS n y iy) e v h := by
  have hr := hρ x y hx (by simp [AI.opds])
  obtain ⟨kk, hi⟩ := aint_rel hq (hρ ix iy hix (by simp [AI.opds]))
  have run : ∀ (a : Addr) (len c : Nat), ρ x = .slice (some a) len c → q.toNat < len → Runs P ρ o w (.pointer (some (a.add (q.toNat * n)))) w := fun a len c ha hlt => .inl (by
    have hq2 : q < (len : Int) := by omega
    simp [execOp, ho, Instr.indexAt, hi, asIntOf, run_underlying ht, ha, tsz_run hn, h0, hq2])
  rcases hv with ⟨es, d, hy, hd, hdn, rfl⟩ | ⟨k, ver, t', es, hy, hrow, hlt, rfl⟩ | ⟨k, ver, off, len, t', es, hy, hrow, hlt, hle, rfl⟩
  · rw [hy] at hr
    have hir := hr.inv_iv
    have hS : ∀ (b off c : Nat), ρ x = .slice (some ⟨b, off, none⟩) es.length c → ∀ (j : Nat) (x : IV), d[j]? = some x → ¬ Shut X C b := by
      intro b off c hu j x hj
      have hlt : q.toNat < es.length := (List.getElem?_eq_some_iff.1 hd).1
      generalize hz : ρ _ = z at hir hu
      cases hir with
      | nil a c => simp at hlt
      | sl es b2 off2 c2 sz g hc hl hs hr2 => cases hu; exact (hs _ d j x hd hj).1
    obtain ⟨b, off, c, hu, ha⟩ := View.elem (C := C) (nv := h.nv) hir.view hd hdn hS
    refine ⟨_, w, C, run _ _ _ hu (List.getElem?_eq_some_iff.1 hd).1, Res.pure ?_⟩
    rw [add_none]
    exact ha
  · obtain ⟨_, hv, hz, val, us, hC, hown, hrr⟩ := rowAt_rel hrow (fun o ho => pre.ok k o (mem_foot (y := y) (by simp [AI.opds]) (by rw [hy]; simp [refs, refs1]) (by simp [AI.cls])) ho)
    rw [hy] at hr
    obtain ⟨_, _, co, hco, h3⟩ := hr.inv_osl
    rw [hC] at hco
    cases hco
    have hu := h3 _ _ rfl
    rcases hown.2 with ⟨rfl, h00⟩ | ⟨g, cap, cur, rfl, _⟩
    · omega
    · refine ⟨_, w, C, run _ _ _ hu hlt, Res.pure (.ptr _ _ _ _ _ _ hv hC ⟨_, rfl⟩ fun vv sz hc => ?_)⟩
      cases hc
      exact ⟨g, rfl, by rw [add_none]; simp⟩
  · obtain ⟨_, hv, hz, val, us, hC, hown, hrr⟩ := rowAt_rel hrow (fun o ho => pre.ok k o (mem_foot (y := y) (by simp [AI.opds]) (by rw [hy]; simp [refs, refs1]) (by simp [AI.cls])) ho)
    rw [hy] at hr
    obtain ⟨_, _, co, hco, h3⟩ := hr.inv_osub
    rw [hC] at hco
    cases hco
    obtain ⟨a, c, hu, hlc, h4⟩ := h3 _ _ rfl
    rcases h4 with h4 | ⟨g, n', cap, rfl, rfl⟩
    · omega
    · refine ⟨_, w, C, run _ _ _ hu hlt, Res.pure (.ptr _ _ _ _ _ _ hv hC ⟨_, rfl⟩ fun vv sz hc => ?_)⟩
      cases hc
      exact ⟨g, rfl, by rw [add_none, Nat.add_mul]; simp⟩

theorem sound_idxA {t len el n : Nat} {g : Bool} {x ix : Operand} {y iy : Opd} {q : Int} {cs : List AV} (ho : o.op = .index t x ix) (ht : P.underlying t = some (.array len el)) (hg : tagg P el = some g) (hn : tsz P el = some n) (hx : cOpd x = some y) (hix : cOpd ix = some iy)
    (hq : aint (iy.ev e) = some q) (h0 : 0 ≤ q) (hq2 : q < len) (hy : y.ev e = .agg cs) (hz : if g then (q.toNat * n + n ≤ cs.length ∧ v = .agg ((cs.drop (q.toNat * n)).take n)) else cs[q.toNat * n]? = some v)
    (hρ : Opds X ρ w C h (.idxA g len n y iy) e) : Concl P X ρ o w C h (.idxA g len n y iy) e v h := by
  have hr := hρ x y hx (by simp [AI.opds])
  obtain ⟨kk, hi⟩ := aint_rel hq (hρ ix iy hix (by simp [AI.opds]))
  rw [hy] at hr
  obtain ⟨us, hu, hus⟩ := hr.inv_agg
  obtain ⟨u, hrun, hru⟩ := part_run hg hn hus hz
  exact ⟨u, w, C, .inl (by simp [execOp, ho, Instr.index, hi, asIntOf, run_underlying ht, hu, h0, hq2, tsz_run hn, hrun]), Res.pure hru⟩

theorem sound_idxStr {t : Nat} {x ix : Operand} {y iy : Opd} {q : Int} {s : ByteArray} {c : UInt8} (ho : o.op = .index t x ix) (ht : P.underlying t = some .string) (hx : cOpd x = some y) (hix : cOpd ix = some iy)
    (hq : aint (iy.ev e) = some q) (h0 : 0 ≤ q) (hy : y.ev e = .iv (.str s)) (hz : s.data[q.toNat]? = some c)
    (hρ : Opds X ρ w C h (.idxStr y iy) e) : Concl P X ρ o w C h (.idxStr y iy) e (.iv (.int .u8 c.toNat)) h := by
  have hr := hρ x y hx (by simp [AI.opds])
  obtain ⟨kk, hi⟩ := aint_rel hq (hρ ix iy hix (by simp [AI.opds]))
  rw [hy] at hr
  have hu := hr.inv_iv.inv_str
  have hlt : q.toNat < s.size := (Array.getElem?_eq_some_iff.1 hz).1
  have hget : s[q.toNat]? = some c := by
    rw [getElem?_pos s q.toNat hlt]
    have := (Array.getElem?_eq_some_iff.1 hz).2
    exact congrArg some this
  exact ⟨_, w, C, .inl (by simp [execOp, ho, Instr.index, hi, asIntOf, run_underlying ht, hu, h0, hget]), Res.pure (.iv (.int _ _))⟩
end
end Go.Om
