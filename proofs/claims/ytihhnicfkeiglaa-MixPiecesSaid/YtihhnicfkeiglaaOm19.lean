/-
  Om: a region whose order is the text's.
-/
import Derived.Test.YtihhnicfkeiglaaOm18
set_option linter.all false
namespace Go.Om
open Go Go.RowKit

/-- A state of the running function and its abstract state. -/
structure St (X : Nat → Prop) (n : Nat) (e : AEnv) (h : Hp) (a : Act) (w : World) (C : Conc) : Prop where
  tot : Tot X w C h
  size : n ≤ a.tmps.size
  tmp : ∀ t u, t < n → a.tmps[t]? = some u → ARel w (Shut X C) C h.nv (e t) u
  defers : a.defers = []

section
variable {P : Program} {X : Nat → Prop} {w w' w'' : World} {C C' C'' : Conc} {h h' : Hp} {v : AV} {u : Value} {K mod : List Nat} {ρ : Operand → Value} {e e' : AEnv} {o : Oper} {mset eqs : List Nat} {ty n : Nat} {i : AI} {xr : Xr} {hd : Hdl} {a : Act}

theorem Tot.free (T : Tot X w C h) (hi : Nat) : Free C h.objs.length hi := fun k h1 _ => T.out k h1
theorem Tot.pre (T : Tot X w C h) (K : List Nat) (hi : Nat) : Pre X w C h K hi := ⟨fun k o _ ho => T.ok k o ho, T.dist, T.lt, T.free hi, T.xlt⟩
theorem Tot.res (T : Tot X w C h) (R : Res X w C h mod v h' u w' C') : Tot X w' C' h' where
  ok := fun k o ho => by
    by_cases hk : k ∈ mod ∨ h.objs.length ≤ k
    · exact R.objs k o hk ho
    · have h1 : k ∉ mod := fun hh => hk (.inl hh)
      have h2 : k < h.objs.length := by
        have : ¬ h.objs.length ≤ k := fun hh => hk (.inr hh)
        omega
      rw [R.old k h2 h1] at ho
      exact R.D.obj (T.free _) T.dist T.lt h1 (T.ok k o ho)
  dist := R.D.dist T.dist T.lt
  lt := R.D.lt T.lt
  out := fun k hk => by
    rw [R.D.same k (.inr hk) (by omega)]
    exact T.out k (Nat.le_trans R.len hk)
  xlt := fun b hb => Nat.lt_of_lt_of_le (T.xlt b hb) R.D.size
  xdist := fun b hb hl => by
    rcases R.D.liveB b hl with h1 | h1
    · exact T.xdist b hb h1
    · have := T.xlt b hb
      omega
theorem Tot.resExt (T : Tot X w C h) (R : Res X w C h mod v h' u w' C') : Ext w (Shut X C) C h.nv w' (Shut X C') C' h'.nv := R.D.ext (T.free _)

theorem Act.put_size (a : Act) (d : Option Nat) (v : Value) : (a.put d v).tmps.size = a.tmps.size := by
  cases d <;> simp [Act.put]
theorem Act.put_defers (a : Act) (d : Option Nat) (v : Value) : (a.put d v).defers = a.defers := by
  cases d <;> rfl

theorem St.put (hs : St X n e h a w C) (T : Tot X w' C' h') (E : Ext w (Shut X C) C h.nv w' (Shut X C') C' h'.nv) (hr : ARel w' (Shut X C') C' h'.nv v u) (d : Option Nat) : St X n (upd e d v) h' (a.put d u) w' C' where
  tot := T
  size := by rw [Act.put_size]; exact hs.size
  defers := by rw [Act.put_defers]; exact hs.defers
  tmp := fun t q ht hq => by
    cases d with
    | none => exact (hs.tmp t q ht hq).ext E
    | some d =>
      simp only [Act.put] at hq
      simp only [upd]
      by_cases htd : t = d
      · subst htd
        rw [if_pos rfl]
        have := Nat.lt_of_lt_of_le ht hs.size
        simp [Array.getElem?_setIfInBounds, this] at hq
        rw [← hq]
        exact hr
      · rw [if_neg htd]
        rw [Array.getElem?_setIfInBounds_ne (fun hh => htd hh.symm)] at hq
        exact (hs.tmp t q ht hq).ext E

theorem St.opds (hs : St X n e h a w C) (ht : ∀ t ∈ i.rds, t < n) : Opds X a.eval w C h i e := by
  intro x y hxy hy
  cases x with
  | tmp t =>
    simp only [cOpd, Option.some.injEq] at hxy
    subst hxy
    have htn : t < n := ht t (List.mem_flatMap.2 ⟨_, hy, by simp [Opd.rd]⟩)
    have hlt := Nat.lt_of_lt_of_le htn hs.size
    refine hs.tmp t _ htn ?_
    simp [Act.eval, Array.getD_eq_getD_getElem?, hlt]
  | const c =>
    simp only [cOpd, Option.some.injEq] at hxy
    subst hxy
    exact cval_rel c
  | func f =>
    simp only [cOpd, Option.some.injEq] at hxy
    subst hxy
    exact .fn f [] [] rfl (fun j x u h1 => by simp at h1)
  | global g => simp [cOpd] at hxy

theorem undef_rel {S : Nat → Prop} {nv : Nat} : ARel w S C nv (.tup []) undef := .tup [] [] rfl (fun j x u h1 => by simp at h1)

/-- Whether an operation is run. -/
theorem wanted_run {ops : Array Oper} {g : Option (Nat × Bool)} (hs : St X n e h a w C) (hg : compGuard ops o.guard = some g) (ht : ∀ t b, g = some (t, b) → t < n) :
    (g = none → Region.wanted o (yielded ops a.tmps) = true) ∧ (∀ t want b, g = some (t, want) → e t = .iv (.bool b) → (Region.wanted o (yielded ops a.tmps) = true ↔ b = want)) ∧ (∀ t want, g = some (t, want) → e t = .tup [] → Region.wanted o (yielded ops a.tmps) = false) := by
  cases hgo : o.guard with
  | none =>
    rw [hgo] at hg
    simp only [compGuard, Option.some.injEq] at hg
    subst hg
    refine ⟨fun _ => by simp [Region.wanted, hgo], by simp, by simp⟩
  | some p =>
    obtain ⟨j, want⟩ := p
    rw [hgo] at hg
    simp only [compGuard] at hg
    split at hg
    · rename_i t hdst
      simp only [Option.some.injEq] at hg
      subst hg
      have htn := ht t want rfl
      have hlt := Nat.lt_of_lt_of_le htn hs.size
      have hv := hs.tmp t _ htn (Array.getElem?_eq_getElem hlt)
      refine ⟨by simp, fun t' want' b he hb => ?_, fun t' want' he hb => ?_⟩
      · simp only [Option.some.injEq, Prod.mk.injEq] at he
        obtain ⟨rfl, rfl⟩ := he
        rw [hb] at hv
        have hvb := hv.inv_iv.inv_bool
        simp only [Region.wanted, hgo, yielded, hdst, Option.bind_some, Array.getElem?_eq_getElem hlt, hvb]
        simp
      · simp only [Option.some.injEq, Prod.mk.injEq] at he
        obtain ⟨rfl, rfl⟩ := he
        rw [hb] at hv
        obtain ⟨us, hu, hl⟩ := hv.inv_tup
        simp only [Region.wanted, hgo, yielded, hdst, Option.bind_some, Array.getElem?_eq_getElem hlt, hu]
        rfl
    · simp at hg

theorem compOps_get {ops : Array Oper} : ∀ {l : List Oper} {ax : List AOp}, compOps P mset eqs ops l = some ax → ax.length = l.length ∧ ∀ (j : Nat) (o : Oper), l[j]? = some o → ∃ x, ax[j]? = some x ∧ compOp P mset eqs ops o = some x
  | [], ax, hc => by simp [compOps] at hc; subst hc; exact ⟨rfl, fun j o hj => by simp at hj⟩
  | o :: r, ax, hc => by
    simp only [compOps] at hc
    obtain ⟨x, h1, h2⟩ := bind_some hc
    obtain ⟨xs, h3, rfl⟩ := map_some h2
    obtain ⟨h4, h5⟩ := compOps_get h3
    refine ⟨by simp [h4], fun j q hj => ?_⟩
    cases j with
    | zero => simp at hj; subst hj; exact ⟨x, rfl, h1⟩
    | succ j => exact h5 j q (by simpa using hj)

/-- One operation of a region, from a whole state. -/
theorem wpOp_sound {ops : Array Oper} {x : AOp} {k : Nat} {K : Act → World → Prop} {Q : Exit → Act → World → Prop} (hX : XrOk P xr) (hH : HdOk P hd) (hE : ∀ t, t ∈ eqs → EqOk P t) (ho : ops[k]? = some o) (hc : compOp P mset eqs ops o = some x)
    (hs : St X n e h a w C) (ht : ∀ t ∈ x.rds, t < n) (hr : arun xr hd [x] e h = some (e', h')) (hK : ∀ a' w' C', St X n e' h' a' w' C' → Post X w C h.nv w' C' h'.nv → K a' w') : wpOp P ops Q k K a w := by
  unfold compOp at hc
  obtain ⟨i, hi, hc2⟩ := bind_some hc
  obtain ⟨g, hg, rfl⟩ := map_some hc2
  obtain ⟨w1, w2, w3⟩ := wanted_run hs hg (fun t b hgt => ht t (by simp [AOp.rds, hgt]))
  have hrun : (∃ v h1, astep xr hd i e h = some (v, h1) ∧ upd e o.dst v = e' ∧ h1 = h') → Region.wanted o (yielded ops a.tmps) = true → wpOp P ops Q k K a w := by
    rintro ⟨v, h1, ha, rfl, rfl⟩ hw
    unfold wpOp
    simp only [ho, hw, if_true]
    left
    refine op_sound (X := X) (C := C) hX hH hE hi ha (hs.opds (fun t htt => ht t (by simp [AOp.rds, htt]))) (hs.tot.pre _ _) _ _ fun u w' hR => ?_
    obtain ⟨C', R⟩ := hR
    exact hK _ _ C' (hs.put (hs.tot.res R) (hs.tot.resExt R) R.r o.dst) (R.D.post (hs.tot.free _))
  have hskip : upd e o.dst (.tup []) = e' ∧ h = h' → Region.wanted o (yielded ops a.tmps) = false → wpOp P ops Q k K a w := by
    rintro ⟨rfl, rfl⟩ hw
    unfold wpOp
    simp only [ho, hw]
    exact hK _ _ C (hs.put hs.tot (Ext.refl _ _ _ _) undef_rel o.dst) (Post.refl _ _ _ _)
  simp only [arun] at hr
  cases g with
  | none =>
    simp only at hr
    obtain ⟨⟨v, h1⟩, h2, h3⟩ := bind_some hr
    simp only [Option.some.injEq, Prod.mk.injEq] at h3
    exact hrun ⟨v, h1, h2, h3⟩ (w1 rfl)
  | some p =>
    obtain ⟨t, want⟩ := p
    simp only at hr
    split at hr
    · rename_i b hb
      split at hr
      · rename_i hbw
        obtain ⟨⟨v, h1⟩, h2, h3⟩ := bind_some hr
        simp only [Option.some.injEq, Prod.mk.injEq] at h3
        exact hrun ⟨v, h1, h2, h3⟩ ((w2 t want b rfl hb).2 hbw)
      · rename_i hbw
        simp only [Option.some.injEq, Prod.mk.injEq] at hr
        refine hskip hr ?_
        cases hq : Region.wanted o (yielded ops a.tmps) with
        | false => rfl
        | true => exact absurd ((w2 t want b rfl hb).1 hq) hbw
    · rename_i hb
      simp only [Option.some.injEq, Prod.mk.injEq] at hr
      exact hskip hr (w3 t want rfl hb)
    · simp at hr

theorem arun_cons {x : AOp} {r : List AOp} {e2 : AEnv} {h2 : Hp} (hr : arun xr hd (x :: r) e h = some (e2, h2)) : ∃ e1 h1, arun xr hd [x] e h = some (e1, h1) ∧ arun xr hd r e1 h1 = some (e2, h2) := by
  simp only [arun] at hr ⊢
  cases hg : x.guard with
  | none =>
    rw [hg] at hr
    simp only at hr ⊢
    obtain ⟨⟨v, h1⟩, h3, h4⟩ := bind_some hr
    exact ⟨_, _, by rw [h3]; rfl, h4⟩
  | some p =>
    obtain ⟨t, want⟩ := p
    rw [hg] at hr
    simp only at hr ⊢
    split at hr
    · rename_i b hb
      split at hr
      · rename_i hbw
        obtain ⟨⟨v, h1⟩, h3, h4⟩ := bind_some hr
        exact ⟨_, _, by rw [if_pos hbw, h3]; rfl, h4⟩
      · rename_i hbw
        exact ⟨_, _, by rw [if_neg hbw], hr⟩
    · rename_i hb
      exact ⟨_, _, rfl, hr⟩
    · simp at hr

theorem reg_sound {ops : Array Oper} {ax : List AOp} {id : Nat} {Q : Exit → Act → World → Prop} (hX : XrOk P xr) (hH : HdOk P hd) (hE : ∀ t, t ∈ eqs → EqOk P t) (hc : compOps P mset eqs ops ops.toList = some ax) (ht : tmpsOk n ax = true)
    (hs : St X n e h a w C) (hr : arun xr hd ax e h = some (e', h')) (hQ : ∀ a' w' C', St X n e' h' a' w' C' → Post X w C h.nv w' C' h'.nv → Q .normal a' w') : (Code.region id ops false).wp P Q a w := by
  refine wp_region ?_
  obtain ⟨hl, hget⟩ := compOps_get hc
  have key : ∀ (m k : Nat) (e : AEnv) (h : Hp) (a : Act) (w1 : World) (C1 : Conc), k + m = ops.size → St X n e h a w1 C1 → arun xr hd (ax.drop k) e h = some (e', h') → (∀ a' w' C', St X n e' h' a' w' C' → Post X w1 C1 h.nv w' C' h'.nv → Q .normal a' w') → wpOps P ops Q (List.range' k m) a w1 := by
    intro m
    induction m with
    | zero =>
      intro k e h a w1 C1 hk hs hr hQ
      rw [List.drop_eq_nil_of_le (by rw [hl]; simp; omega)] at hr
      simp only [arun, Option.some.injEq, Prod.mk.injEq] at hr
      obtain ⟨rfl, rfl⟩ := hr
      exact hQ _ _ _ hs (Post.refl _ _ _ _)
    | succ m ih =>
      intro k e h a w1 C1 hk hs hr hQ
      rw [List.range'_succ, wpOps_cons]
      have hko : ops[k]? = some ops[k] := Array.getElem?_eq_getElem (by omega)
      obtain ⟨x, hx, hcx⟩ := hget k ops[k] (by simpa using hko)
      have hdrop : ax.drop k = x :: ax.drop (k + 1) := by
        obtain ⟨hlt, hx2⟩ := List.getElem?_eq_some_iff.1 hx
        rw [← hx2]
        exact List.drop_eq_getElem_cons hlt
      rw [hdrop] at hr
      obtain ⟨e1, h1, hr1, hr2⟩ := arun_cons hr
      have htx : ∀ t ∈ x.rds, t < n := by
        have := List.all_eq_true.1 ht x (List.mem_of_getElem? hx)
        simp only [Bool.and_eq_true, List.all_eq_true, decide_eq_true_eq] at this
        exact this.2
      refine wpOp_sound hX hH hE hko hcx hs htx hr1 fun a' w' C' hs' hp => ?_
      exact ih (k + 1) e1 h1 a' w' C' (by omega) hs' hr2 fun a2 w2 C2 hs2 hp2 => hQ a2 w2 C2 hs2 (hp.trans hp2)
  rw [List.range_eq_range']
  exact key ops.size 0 e h a w C (by omega) hs (by simpa using hr) hQ
end
end Go.Om
