/-
  Om: cuts, arithmetic, conversions, building.
-/
import Derived.Test.YtihhnicfkeiglaaOm6
import Derived.Laws.BytesString
set_option linter.all false
namespace Go.Om
open Go Go.RowKit

section
variable {hh : Nat} {P : Program} {X : Nat → Prop} {w w' : World} {C C' : Conc} {h h' : Hp} {v : AV} {u : Value} {K mod : List Nat} {ρ : Operand → Value} {e : AEnv} {o : Oper} {S : Nat → Prop} {nv : Nat}

theorem bounds_run (b : Bool) (len cap : Nat) (lo hi : Option Value) (l r : Nat) (hl : match lo with | none => l = 0 | some v => ∃ k, v = .int k l) (hr : match hi with | none => r = len | some v => ∃ k, v = .int k r) (h1 : l ≤ r) (h2 : r ≤ cap) :
    (Instr.sliceBounds b len cap lo hi none).run P w = .ok (l, r, cap) w := by
  cases lo with
  | none =>
    simp only at hl
    subst hl
    cases hi with
    | none => simp only at hr; subst hr; simp [Instr.sliceBounds]
    | some v => obtain ⟨k, rfl⟩ := hr; simp [Instr.sliceBounds, Instr.sliceBound, asIntOf, h2]
  | some v0 =>
    obtain ⟨k0, rfl⟩ := hl
    cases hi with
    | none => simp only at hr; subst hr; simp [Instr.sliceBounds, Instr.sliceBound, asIntOf, h1]
    | some v => obtain ⟨k, rfl⟩ := hr; simp [Instr.sliceBounds, Instr.sliceBound, asIntOf, h2, h1]

/-- An optional bound, in the model and here. -/
def BndC : Option Operand → Option Opd → Prop
  | none, none => True
  | some x, some y => cOpd x = some y
  | _, _ => False
theorem bnd_rel {lo : Option Operand} {lo' : Option Opd} {d l : Nat} (hc : BndC lo lo') (hb : bnd e d lo' = some l) (hρ : ∀ x y, lo = some x → lo' = some y → ARel w S C nv (y.ev e) (ρ x)) :
    match lo.map ρ with | none => l = d | some v => ∃ k, v = .int k l := by
  cases lo with
  | none => cases lo' with
    | none => simp [bnd] at hb; simp [hb]
    | some y => simp [BndC] at hc
  | some x => cases lo' with
    | none => simp [BndC] at hc
    | some y =>
      simp only [bnd] at hb
      cases ha : aint (y.ev e) with
      | none => rw [ha] at hb; simp at hb
      | some n =>
        rw [ha] at hb
        simp only at hb
        split at hb
        · rename_i h0
          cases hb
          obtain ⟨k, hk⟩ := aint_rel ha (hρ x y rfl rfl)
          exact ⟨k, by simp [hk, Int.toNat_of_nonneg h0]⟩
        · simp at hb

theorem sound_slcStr {t : Nat} {x : Operand} {y : Opd} {lo hi : Option Operand} {lo' hi' : Option Opd} {s : ByteArray} {l r : Nat} (ho : o.op = .slice t x lo hi none) (ht : P.underlying t = some .string) (hx : cOpd x = some y) (hlo : BndC lo lo') (hhi : BndC hi hi')
    (hy : y.ev e = .iv (.str s)) (hl : bnd e 0 lo' = some l) (hr : bnd e s.size hi' = some r) (h1 : l ≤ r) (h2 : r ≤ s.size) (hρ : Opds X ρ w C h (.slcStr y lo' hi') e) : Concl P X ρ o w C h (.slcStr y lo' hi') e (.iv (.str (s.extract l r))) h := by
  have hxr := hρ x y hx (by simp [AI.opds])
  rw [hy] at hxr
  have hu := hxr.inv_iv.inv_str
  have b1 := bnd_rel hlo hl (w := w) (S := Shut X C) (C := C) (nv := h.nv) (ρ := ρ) (fun x' y' e1 e2 => by subst e1; subst e2; exact hρ x' y' hlo (by simp [AI.opds, optl]))
  have b2 := bnd_rel hhi hr (w := w) (S := Shut X C) (C := C) (nv := h.nv) (ρ := ρ) (fun x' y' e1 e2 => by subst e1; subst e2; exact hρ x' y' hhi (by simp [AI.opds, optl]))
  have run := bounds_run (P := P) (w := w) false s.size s.size _ _ l r b1 b2 h1 h2
  exact ⟨_, w, C, .inl (by simp [execOp, ho, Instr.sliceAt, Instr.slice, run_underlying ht, hu, run]), Res.pure (.iv (.str _))⟩

theorem View.cutRel {es : List (List IV)} {a : Option Addr} {n c : Nat} {l r : Nat} (hir : IRel w S (.sl es) (.slice a n c)) (h1 : l ≤ r) (h2 : r ≤ es.length) {sz : Nat} (hz : ∀ (i : Nat) (d : List IV), es[i]? = some d → d.length = sz) :
    n = es.length ∧ n ≤ c ∧ IRel w S (.sl ((es.take r).drop l)) (.slice (if c = l then a else a.map (·.add (l * sz))) (r - l) (c - l)) := by
  cases hir with
  | nil a c =>
    simp at h2
    subst h2
    have : l = 0 := by omega
    subst this
    exact ⟨rfl, Nat.zero_le _, by simpa using IRel.nil _ _⟩
  | sl es b off c sz' g hc hl hs hr =>
    refine ⟨rfl, hc, ?_⟩
    have hlen : ((es.take r).drop l).length = r - l := by simp; omega
    by_cases h0 : r - l = 0
    · have : (es.take r).drop l = [] := List.eq_nil_of_length_eq_zero (by omega)
      rw [this, h0]
      exact IRel.nil _ _
    · have hcl : c ≠ l := by omega
      rw [if_neg hcl]
      simp only [Option.map_some, add_none]
      obtain ⟨d0, hd0⟩ : ∃ d0, es[0]? = some d0 := ⟨es[0]'(by omega), List.getElem?_eq_getElem (by omega)⟩
      have e1 := hz 0 d0 hd0
      have e2 := hl 0 d0 hd0
      have e3 : sz' = sz := by omega
      subst e3
      have key : ∀ (i : Nat) (d : List IV), ((es.take r).drop l)[i]? = some d → es[l + i]? = some d := by
        intro i d hd
        rw [List.getElem?_drop, List.getElem?_take] at hd
        split at hd
        · exact hd
        · simp at hd
      have := IRel.sl (w := w) (S := S) ((es.take r).drop l) b (off + l * sz') (c - l) sz' (fun i j => g (l + i) j) (by omega) (fun i d hd => hl _ d (key i d hd))
        (fun i d j x hd hx => by
          have := hs _ d j x (key i d hd) hx
          rw [Nat.add_mul] at this
          rw [show off + l * sz' + (i * sz' + j) = off + (l * sz' + i * sz' + j) by omega]
          exact this) (fun i d j x hd hx => hr _ d j x (key i d hd) hx)
      rwa [hlen] at this

theorem sound_slcS {t el sz : Nat} {x : Operand} {y : Opd} {lo hi : Option Operand} {lo' hi' : Option Opd} {l r : Nat} (ho : o.op = .slice t x lo hi none) (ht : P.underlying t = some (.slice el)) (hn : tsz P el = some sz) (hx : cOpd x = some y) (hlo : BndC lo lo') (hhi : BndC hi hi')
    (hl : bnd e 0 lo' = some l) (h1 : l ≤ r)
    (hv : (∃ es, y.ev e = .iv (.sl es) ∧ bnd e es.length hi' = some r ∧ r ≤ es.length ∧ v = .iv (.sl ((es.take r).drop l)) ∧ (∀ (i : Nat) (d : List IV), es[i]? = some d → d.length = sz)) ∨
      (∃ k ver t' es, y.ev e = .osl k ver ∧ rowAt h k ver = some (t', sz, es) ∧ bnd e es.length hi' = some r ∧ r ≤ es.length ∧ v = .osub k ver l (r - l)) ∨
      (∃ k ver off len t' es, y.ev e = .osub k ver off len ∧ rowAt h k ver = some (t', sz, es) ∧ bnd e len hi' = some r ∧ r ≤ len ∧ v = .osub k ver (off + l) (r - l)))
    (hρ : Opds X ρ w C h (.slcS sz y lo' hi') e) (pre : Pre X w C h (foot (.slcS sz y lo' hi') e) hh) : Concl P X ρ o w C h (.slcS sz y lo' hi') e v h := by
  have hr := hρ x y hx (by simp [AI.opds])
  have b1 := bnd_rel hlo hl (w := w) (S := Shut X C) (C := C) (nv := h.nv) (ρ := ρ) (fun x' y' e1 e2 => by subst e1; subst e2; exact hρ x' y' hlo (by simp [AI.opds, optl]))
  have b2 : ∀ {d}, bnd e d hi' = some r → _ := fun {d} hb => bnd_rel hhi hb (w := w) (S := Shut X C) (C := C) (nv := h.nv) (ρ := ρ) (fun x' y' e1 e2 => by subst e1; subst e2; exact hρ x' y' hhi (by simp [AI.opds, optl]))
  have run : ∀ (a : Option Addr) (n c : Nat), ρ x = .slice a n c → bnd e n hi' = some r → r ≤ c → Runs P ρ o w (.slice (if c = l then a else a.map (·.add (l * sz))) (r - l) (c - l)) w := fun a n c hu hb hrc => by
    have := bounds_run (P := P) (w := w) true n c _ _ l r b1 (b2 hb) h1 hrc
    exact .inl (by simp [execOp, ho, Instr.sliceAt, Instr.slice, run_underlying ht, hu, this, tsz_run hn])
  rcases hv with ⟨es, hy, hb, hre, rfl, hz⟩ | ⟨k, ver, t', es, hy, hrow, hb, hre, rfl⟩ | ⟨k, ver, off, len, t', es, hy, hrow, hb, hre, rfl⟩
  · rw [hy] at hr
    obtain ⟨a, c, hu, hle, _⟩ := hr.inv_iv.view
    have hir := hr.inv_iv
    rw [hu] at hir
    obtain ⟨_, _, h3⟩ := View.cutRel hir h1 hre hz
    exact ⟨_, w, C, run _ _ _ hu hb (by omega), Res.pure (.iv h3)⟩
  · obtain ⟨_, hv, hzz, val, us, hC, hown, hrr⟩ := rowAt_rel hrow (fun o ho => pre.ok k o (mem_foot (y := y) (by simp [AI.opds]) (by rw [hy]; simp [refs, refs1]) (by simp [AI.cls])) ho)
    rw [hy] at hr
    obtain ⟨_, _, co, hco, h3⟩ := hr.inv_osl
    rw [hC] at hco
    cases hco
    have hu := h3 _ _ rfl
    rcases hown.2 with ⟨rfl, h00⟩ | ⟨g, cap, cur, rfl, _, _, hcap, _⟩
    · rw [h00] at hb hre
      refine ⟨_, w, C, run _ _ _ hu hb (by omega), Res.pure (.osub _ _ _ _ _ _ hv hC rfl fun vv sz' hc => ?_)⟩
      exact ⟨_, _, rfl, by omega, .inl (by omega)⟩
    · refine ⟨_, w, C, run _ _ _ hu hb (by omega), Res.pure (.osub _ _ _ _ _ _ hv hC rfl fun vv sz' hc => ?_)⟩
      cases hc
      refine ⟨_, _, rfl, by omega, ?_⟩
      by_cases hcl : cap = l
      · exact .inl (by omega)
      · exact .inr ⟨g, _, cap, rfl, by rw [if_neg hcl]; simp [add_none]⟩
  · obtain ⟨_, hv, hzz, val, us, hC, hown, hrr⟩ := rowAt_rel hrow (fun o ho => pre.ok k o (mem_foot (y := y) (by simp [AI.opds]) (by rw [hy]; simp [refs, refs1]) (by simp [AI.cls])) ho)
    rw [hy] at hr
    obtain ⟨_, _, co, hco, h3⟩ := hr.inv_osub
    rw [hC] at hco
    cases hco
    obtain ⟨a, c, hu, hlc, h4⟩ := h3 _ _ rfl
    refine ⟨_, w, C, run _ _ _ hu hb (by omega), Res.pure (.osub _ _ _ _ _ _ hv hC rfl fun vv sz' hc => ?_)⟩
    cases hc
    refine ⟨_, _, rfl, by omega, ?_⟩
    rcases h4 with h4 | ⟨g, n', cap, rfl, rfl⟩
    · exact .inl (by omega)
    · by_cases hcl : c = l
      · exact .inl (by omega)
      · exact .inr ⟨g, _, cap, rfl, by rw [if_neg hcl]; simp [add_none, Nat.add_mul]⟩

/-! ### arithmetic -/
theorem abin_run {op : BinOp} {a b r : IV} {ua ub : Value} {t : Nat} (hab : abin op a b = some r) (ha : IRel w S a ua) (hb : IRel w S b ub) : ∃ ur, (binOp op t ua ub).run P w = .ok ur w ∧ IRel w S r ur := by
  cases a <;> cases b <;> simp only [abin] at hab <;> try (simp at hab; done)
  · rename_i k n k' m
    rw [ha.inv_int, hb.inv_int]
    cases op <;> simp only at hab <;> (try (simp at hab; done)) <;> (repeat' split at hab) <;> (try (simp at hab; done)) <;> cases hab
    all_goals (try subst_vars)
    all_goals refine ⟨_, ?_, by constructor⟩
    all_goals simp_all [binOp, Op.intArith, Op.intDiv, Op.intBits, Op.shift, Op.intCmp]
    all_goals (intro hneg; omega)
  · rename_i s1 s2
    rw [ha.inv_str, hb.inv_str]
    cases op <;> simp only at hab <;> (try (simp at hab; done)) <;> (repeat' split at hab) <;> (try (simp at hab; done)) <;> cases hab
    · rename_i hle
      refine ⟨_, ?_, by constructor⟩
      have : ¬ (((s1.size + s2.size : Nat) : Int) > IntKind.i64.max) := by
        have : IntKind.i64.max = 9223372036854775807 := by decide
        omega
      simp only [binOp, Op.stringOp]
      rw [if_neg this]
      rfl
    all_goals exact ⟨_, rfl, by constructor⟩
end
end Go.Om
