/-
  Om: operators, conversions, building.
-/
import Derived.Test.YtihhnicfkeiglaaOm7
set_option linter.all false
namespace Go.Om
open Go Go.RowKit

section
variable {hh : Nat} {P : Program} {X : Nat → Prop} {w w' : World} {C C' : Conc} {h h' : Hp} {v : AV} {u : Value} {K mod : List Nat} {ρ : Operand → Value} {e : AEnv} {o : Oper} {S : Nat → Prop} {nv : Nat}

theorem eqGuard_run {op : BinOp} {t : Nat} {x y : Operand} {ua ub : Value} (ha : ua ≠ .nilIface) (hb : ∀ cs, ua ≠ .agg cs) : (eqGuard op t x y ua ub).run P w = .ok () w := by
  cases ua <;> first | (exact absurd rfl ha) | (exact absurd rfl (hb _)) | (cases op <;> simp [eqGuard])
theorem irel_no {x : IV} (hx : IRel w S x u) : u ≠ .nilIface ∧ ∀ cs, u ≠ .agg cs := by cases hx <;> exact ⟨by simp, by simp⟩

theorem sound_bin {op : BinOp} {t t2 : Nat} {x y : Operand} {x' y' : Opd} {a b r : IV} (ho : o.op = .binOp op t x y t2) (hx : cOpd x = some x') (hy : cOpd y = some y') (ha : x'.ev e = .iv a) (hb : y'.ev e = .iv b) (hr : abin op a b = some r)
    (hρ : Opds X ρ w C h (.bin op x' y') e) : Concl P X ρ o w C h (.bin op x' y') e (.iv r) h := by
  have h1 := hρ x x' hx (by simp [AI.opds])
  have h2 := hρ y y' hy (by simp [AI.opds])
  rw [ha] at h1
  rw [hb] at h2
  obtain ⟨ur, hrun, hur⟩ := abin_run (P := P) (t := t) hr h1.inv_iv h2.inv_iv
  obtain ⟨n1, n2⟩ := irel_no h1.inv_iv
  exact ⟨ur, w, C, .inl (by simp [execOp, ho, eqGuard_run n1 n2, hrun]), Res.pure (.iv hur)⟩

theorem run_equalIn_bool (d : Nat) {t : Nat} (ht : P.underlying t = some .bool) (a b : Bool) : (Op.equalIn (d + 1) t (.bool a) (.bool b)).run P w = .ok (a == b) w := by
  simp [Op.equalIn, run_underlying ht]
theorem sound_binB {op : BinOp} {t t2 : Nat} {x y : Operand} {x' y' : Opd} {a b r : Bool} (ho : o.op = .binOp op t x y t2) (ht : P.underlying t = some .bool) (hx : cOpd x = some x') (hy : cOpd y = some y') (ha : x'.ev e = .iv (.bool a)) (hb : y'.ev e = .iv (.bool b))
    (hr : (op = .eql ∧ r = (a == b)) ∨ (op = .neq ∧ r = !(a == b))) (hρ : Opds X ρ w C h (.binB op x' y') e) : Concl P X ρ o w C h (.binB op x' y') e (.iv (.bool r)) h := by
  have h1 := hρ x x' hx (by simp [AI.opds])
  have h2 := hρ y y' hy (by simp [AI.opds])
  rw [ha] at h1
  rw [hb] at h2
  have e1 := h1.inv_iv.inv_bool
  have e2 := h2.inv_iv.inv_bool
  have hq := run_equalIn_bool (P := P) (w := w) 9999 ht a b
  rcases hr with ⟨rfl, rfl⟩ | ⟨rfl, rfl⟩
  · exact ⟨_, w, C, .inl (by simp [execOp, ho, e1, e2, eqGuard, binOp, Op.equal, Op.maxDepth, hq]), Res.pure (.iv (.bool _))⟩
  · exact ⟨_, w, C, .inl (by simp [execOp, ho, e1, e2, eqGuard, binOp, Op.equal, Op.maxDepth, hq]), Res.pure (.iv (.bool _))⟩

/-- '==' at a type of structs or arrays whose cells are numbers, bools and strings: cell by cell. -/
def EqOk (P : Program) (t : Nat) : Prop := ∀ (w : World) (op : BinOp) (x y : Operand) (a b : List AV) (ua ub : List Value) (r : Bool) (S : Nat → Prop) (C : Conc) (nv : Nat),
  (op = .eql ∨ op = .neq) → sceqs a b = some r → ARels w S C nv a ua → ARels w S C nv b ub →
  ∃ w', (do eqGuard op t x y (.agg ua.toArray) (.agg ub.toArray); binOp op t (.agg ua.toArray) (.agg ub.toArray) : Sem Value).run P w = .ok (.bool (if op = .neq then !r else r)) w' ∧ w'.heap = w.heap ∧ w'.os = w.os ∧ w'.tape = w.tape ∧ w'.output = w.output

theorem Res.quiet (h1 : w'.heap = w.heap) (h2 : w'.os = w.os) (h3 : w'.tape = w.tape) (h4 : w'.output = w.output) (hr : ARel w' (Shut X C) C h.nv v u) : Res X w C h [] v h u w' C :=
  ⟨Delta.quiet _ _ _ _ h1 h2 h3 h4, hr, fun k o hk ho => by
    rcases hk with hk | hk
    · simp at hk
    · rw [List.getElem?_eq_none hk] at ho; simp at ho, fun _ _ _ => rfl, Nat.le_refl _⟩
theorem sound_aeq {op : BinOp} {t t2 : Nat} {neg r : Bool} {x y : Operand} {x' y' : Opd} {a b : List AV} (hE : EqOk P t) (ho : o.op = .binOp op t x y t2) (hop : (op = .eql ∧ neg = false) ∨ (op = .neq ∧ neg = true)) (hx : cOpd x = some x') (hy : cOpd y = some y') (ha : x'.ev e = .agg a) (hb : y'.ev e = .agg b)
    (hr : sceqs a b = some r) (hρ : Opds X ρ w C h (.aeq t neg x' y') e) : Concl P X ρ o w C h (.aeq t neg x' y') e (.iv (.bool (if neg then !r else r))) h := by
  have h1 := hρ x x' hx (by simp [AI.opds])
  have h2 := hρ y y' hy (by simp [AI.opds])
  rw [ha] at h1
  rw [hb] at h2
  obtain ⟨ua, e1, s1⟩ := h1.inv_agg
  obtain ⟨ub, e2, s2⟩ := h2.inv_agg
  obtain ⟨w', hrun, q1, q2, q3, q4⟩ := hE w op x y a b ua ub r (Shut X C) C h.nv (hop.imp (·.1) (·.1)) hr s1 s2
  refine ⟨.bool (if op = .neq then !r else r), w', C, .inl ?_, Res.quiet q1 q2 q3 q4 ?_⟩
  · have : execOp ρ o = (do pure (.value (← (do eqGuard op t x y (ρ x) (ρ y); binOp op t (ρ x) (ρ y) : Sem Value)))) := by simp only [execOp, ho]
    rw [this, e1, e2, Sem.run_bind, hrun]
    rfl
  · rcases hop with ⟨rfl, rfl⟩ | ⟨rfl, rfl⟩ <;> exact .iv (.bool _)

theorem sound_una {op : UnOp} {t : Nat} {x : Operand} {x' : Opd} (ho : o.op = .unOp op t x) (hx : cOpd x = some x')
    (hv : (∃ p, op = .not ∧ x'.ev e = .iv (.bool p) ∧ v = .iv (.bool !p)) ∨ (∃ k n, op = .neg ∧ x'.ev e = .iv (.int k n) ∧ v = .iv (.int k (k.wrap (0 - n)))))
    (hρ : Opds X ρ w C h (.una op x') e) : Concl P X ρ o w C h (.una op x') e v h := by
  have h1 := hρ x x' hx (by simp [AI.opds])
  rcases hv with ⟨p, rfl, ha, rfl⟩ | ⟨k, n, rfl, ha, rfl⟩
  · rw [ha] at h1
    exact ⟨_, w, C, .inl (by simp [execOp, ho, h1.inv_iv.inv_bool, Op.unary]), Res.pure (.iv (.bool _))⟩
  · rw [ha] at h1
    exact ⟨_, w, C, .inl (by simp [execOp, ho, h1.inv_iv.inv_int, Op.unary, Op.intArith]), Res.pure (.iv (.int _ _))⟩

theorem sound_cvtI {s d : Nat} {k k1 k2 : IntKind} {n : Int} {x : Operand} {x' : Opd} (ho : o.op = .convert s d x) (hs : P.underlying s = some (.int k1)) (hd : P.underlying d = some (.int k)) (hx : cOpd x = some x') (ha : x'.ev e = .iv (.int k2 n))
    (hρ : Opds X ρ w C h (.cvtI k x') e) : Concl P X ρ o w C h (.cvtI k x') e (.iv (.int k (k.wrap n))) h := by
  have h1 := hρ x x' hx (by simp [AI.opds])
  rw [ha] at h1
  exact ⟨_, w, C, .inl (by simp [execOp, ho, convert, run_underlying hs, run_underlying hd, h1.inv_iv.inv_int, Conv.intToInt]), Res.pure (.iv (.int _ _))⟩

theorem rowRel_bytes (s : ByteArray) : RowRel w S 1 (bytesIV s) (s.data.toList.map fun b => Value.int .u8 b.toNat) := by
  refine ⟨fun i d hd => ?_, fun i d j x u h1 h2 h3 => ?_⟩
  · simp only [bytesIV, List.getElem?_map] at hd
    cases hq : s.data.toList[i]? with
    | none => rw [hq] at hd; simp at hd
    | some c => rw [hq] at hd; simp at hd; subst hd; rfl
  · simp only [bytesIV, List.getElem?_map] at h1
    cases hq : s.data.toList[i]? with
    | none => rw [hq] at h1; simp at h1
    | some c =>
      rw [hq] at h1
      simp at h1
      subst h1
      cases j with
      | zero =>
        simp only [List.getElem?_cons_zero, Option.some.injEq] at h2
        subst h2
        simp only [Nat.mul_one, Nat.add_zero, List.getElem?_map, hq, Option.map_some, Option.some.injEq] at h3
        subst h3
        exact .int _ _
      | succ j => simp at h2

theorem fitCap (w : World) (n e : Nat) (hn : n ≤ maxLen) : n ≤ grownCap w n 0 e ∧ grownCap w n 0 e ≤ maxLen := ⟨grownCap_ge _ _ _ _, grownCap_le_maxLen _ _ _ _ hn⟩

theorem ARels.iv_of {cs : List IV} {us : List Value} (hl : cs.length = us.length) (hs : ∀ (j : Nat) (x : IV) (u : Value), cs[j]? = some x → us[j]? = some u → IRel w S x u) : ARels w S C nv (cs.map .iv) us :=
  ⟨by simpa using hl, fun j x u h1 h2 => by
    rw [List.getElem?_map] at h1
    cases hc : cs[j]? with
    | none => rw [hc] at h1; simp at h1
    | some z => rw [hc] at h1; simp at h1; subst h1; exact .iv (hs j z u hc h2)⟩

theorem sound_ext {x : Operand} {x' : Opd} {i : Nat} {vs : List AV} (ho : o.op = .extract x i) (hx : cOpd x = some x') (ha : x'.ev e = .tup vs) (hv : vs[i]? = some v) (hρ : Opds X ρ w C h (.ext x' i) e) : Concl P X ρ o w C h (.ext x' i) e v h := by
  have h1 := hρ x x' hx (by simp [AI.opds])
  rw [ha] at h1
  obtain ⟨us, hu, hs⟩ := h1.inv_tup
  obtain ⟨u, hu2, hr⟩ := hs.get hv
  exact ⟨u, w, C, .inl (by simp [execOp, ho, hu, Instr.extract, hu2]), Res.pure hr⟩

theorem sound_nilck {x : Operand} {x' : Opd} (ho : o.op = .nilCheck x) (hx : cOpd x = some x') (hv : (∃ k a i j, x'.ev e = .ptr k a i j) ∨ (∃ cs, x'.ev e = .iptr cs) ∨ (∃ f cs, x'.ev e = .fn f cs)) (hρ : Opds X ρ w C h (.nilck x') e) :
    Concl P X ρ o w C h (.nilck x') e (x'.ev e) h := by
  have h1 := hρ x x' hx (by simp [AI.opds])
  refine ⟨ρ x, w, C, .inl ?_, Res.pure h1⟩
  rcases hv with ⟨k, a, i, j, ha⟩ | ⟨cs, ha⟩ | ⟨f, cs, ha⟩
  · rw [ha] at h1
    obtain ⟨_, ⟨a, hu⟩, _⟩ := h1.inv_ptr
    simp [execOp, ho, hu]
  · rw [ha] at h1
    obtain ⟨b, off, g, hu, _⟩ := h1.inv_iptr
    simp [execOp, ho, hu]
  · rw [ha] at h1
    obtain ⟨us, hu, _⟩ := h1.inv_fn
    simp [execOp, ho, hu]

theorem opds_rels {xs : List Operand} {ys : List Opd} (hc : cOpds xs = some ys) (hρ : ∀ x y, cOpd x = some y → y ∈ ys → ARel w S C nv (y.ev e) (ρ x)) : ARels w S C nv (ys.map (·.ev e)) (xs.map ρ) := by
  induction xs generalizing ys with
  | nil => simp [cOpds] at hc; subst hc; exact .nil
  | cons x r ih =>
    simp only [cOpds] at hc
    cases hx : cOpd x with
    | none => rw [hx] at hc; simp at hc
    | some y =>
      rw [hx] at hc
      cases hr : cOpds r with
      | none => rw [hr] at hc; simp at hc
      | some zs =>
        rw [hr] at hc
        simp at hc
        subst hc
        exact .cons (hρ x y hx (by simp)) (ih hr (fun x y h1 h2 => hρ x y h1 (by simp [h2])))

theorem sound_mfn {f : Nat} {first caps : Array Operand} {cs : List Opd} (ho : o.op = .makeFunc (.func f) first caps) (hf : first.isEmpty = true) (hc : cOpds caps.toList = some cs) (hρ : Opds X ρ w C h (.mfn f cs) e) :
    Concl P X ρ o w C h (.mfn f cs) e (.fn f (cs.map (·.ev e))) h := by
  have hs := opds_rels hc (fun x y h1 h2 => hρ x y h1 (by simpa [AI.opds] using h2))
  have hf' : first = #[] := by simpa using hf
  refine ⟨.func (.func f) #[] (caps.toList.map ρ).toArray, w, C, .inl ?_, Res.pure (.fn f _ _ hs.1 hs.2)⟩
  have hm : Array.map ρ caps = (caps.toList.map ρ).toArray := by
    apply Array.ext'
    simp
  simp [execOp, ho, Instr.makeFunc, hf', hm]

theorem sound_lenA {t n el : Nat} {x : Operand} {c : Call} (ho : o.op = .call c) (hb : c.callee = .builtin .len) (ht0 : c.argTypes.toList = [t]) (hx0 : c.args.toList = [x]) (ht : P.underlying t = some (.array n el)) :
    Concl P X ρ o w C h (.lenA n) e (.iv (.int .i64 n)) h := by
  have h1 : c.argTypes = #[t] := by rw [← Array.toArray_toList (xs := c.argTypes), ht0]
  have h2 : c.args = #[x] := by rw [← Array.toArray_toList (xs := c.args), hx0]
  exact ⟨_, w, C, .inl (by simp [execOp, ho, resolve, hb, h1, h2, invoke, builtin, Builtin.len_, run_underlying ht, goInt]), Res.pure (.iv (.int _ _))⟩
end
end Go.Om
