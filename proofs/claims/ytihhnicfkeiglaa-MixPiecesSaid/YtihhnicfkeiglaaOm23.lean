/-
  Om: a region whose order is open.
-/
import Derived.Test.YtihhnicfkeiglaaOm22
set_option linter.all false
namespace Go.Om
open Go Go.RowKit

section
variable {P : Program} {X : Nat → Prop} {w w' w'' : World} {C C' C'' : Conc} {h h' ĥ : Hp} {v : AV} {e ê e' : AEnv} {i : AI} {xr : Xr} {hd : Hdl} {mset eqs : List Nat} {n : Nat} {a : Act}

def LB (listed : Array Bool) (j : Nat) : Prop := listed.getD j false = true
theorem LB_set {listed : Array Bool} {j k : Nat} (hj : j < listed.size) : LB (listed.setIfInBounds j true) k ↔ (k = j ∨ LB listed k) := by
  unfold LB
  simp only [Array.getD_eq_getD_getElem?, Array.getElem?_setIfInBounds]
  by_cases h : j = k
  · subst h; simp [hj]
  · simp [h]; exact fun hh => absurd hh.symm h

structure Ord (ops : Array Oper) (b : List Nat) (ax : List AOp) : Prop where
  edge : ∀ (j : Nat) (o : Oper), ops[j]? = some o → ∀ e ∈ o.after, Region.binds .any e = true → e.on < j
  mask : ∀ (j : Nat) (o : Oper), ops[j]? = some o → ∀ i, i < ops.size → bit (b.getD j 0) i = true → ∃ e ∈ o.after, Region.binds .any e = true ∧ (i = e.on ∨ bit (b.getD e.on 0) i = true)
  uniq : ∀ (i j t : Nat) (x y : AOp), ax[i]? = some x → ax[j]? = some y → x.dst = some t → i ≠ j → y.dst ≠ some t ∧ (t ∈ y.rds → told b i j = true)
  heap : ∀ (i j : Nat) (x y : AOp), ax[i]? = some x → ax[j]? = some y → x.ins.heap = true → y.ins.heap = true → i ≠ j → told b i j = true

theorem ord_of {ops : Array Oper} {b : List Nat} {ax : List AOp} (ho : orderOk ops b ax = true) : Ord ops b ax := by
  unfold orderOk at ho
  simp only [Bool.and_eq_true] at ho
  obtain ⟨⟨h1, h2⟩, h3⟩ := ho
  have h4 : ∀ (i j : Nat) (x y : AOp), ax[i]? = some x → ax[j]? = some y → orderOk1 b ax i j = true := by
    intro i j x y hx hy
    have := List.all_eq_true.1 h3 i (List.mem_range.2 (List.getElem?_eq_some_iff.1 hx).1)
    exact List.all_eq_true.1 this j (List.mem_range.2 (List.getElem?_eq_some_iff.1 hy).1)
  refine ⟨fun j o hj e he hb => ?_, fun j o hj i hi hbit => ?_, fun i j t x y hx hy ht hij => ?_, fun i j x y hx hy hxh hyh hij => ?_⟩
  · have hm : (o, j) ∈ ops.toList.zipIdx := by rw [List.mem_zipIdx_iff_getElem?]; simpa using hj
    have := List.all_eq_true.1 h1 _ hm
    have := List.all_eq_true.1 this e (by simpa using he)
    simpa [hb] using this
  · have hm : (o, j) ∈ ops.toList.zipIdx := by rw [List.mem_zipIdx_iff_getElem?]; simpa using hj
    have := List.all_eq_true.1 h2 _ hm
    have := List.all_eq_true.1 this i (List.mem_range.2 hi)
    simp only [hbit, Bool.not_true, Bool.false_or] at this
    obtain ⟨e, he, h5⟩ := List.any_eq_true.1 this
    simp only [Bool.and_eq_true, Bool.or_eq_true, beq_iff_eq] at h5
    exact ⟨e, by simpa using he, h5⟩
  · have := h4 i j x y hx hy
    simp only [orderOk1, hx, hy, ht, Bool.and_eq_true, Bool.or_eq_true, beq_iff_eq, hij, false_or] at this
    obtain ⟨⟨h5, h6⟩, _⟩ := this
    refine ⟨by simpa using h5, fun htr => ?_⟩
    rcases h6 with h6 | h6
    · simp [htr] at h6
    · exact h6
  · have := h4 i j x y hx hy
    simp only [orderOk1, hx, hy, Bool.and_eq_true, Bool.or_eq_true, beq_iff_eq, hij, false_or, hxh, hyh, Bool.and_self, Bool.not_true] at this
    rcases this.2 with h5 | h5
    · simp at h5
    · exact h5

/-- The state when some have come up. -/
structure Mid (X : Nat → Prop) (n : Nat) (b : List Nat) (ax : List AOp) (E : Nat → AEnv) (H : Nat → Hp) (w0 : World) (C0 : Conc) (nv0 : Nat) (listed : Array Bool) (p : Nat) (ê : AEnv) (a : Act) (w : World) (C : Conc) : Prop where
  size : listed.size = ax.length
  closed : ∀ j, LB listed j → ∀ i, i < ax.length → bit (b.getD j 0) i = true → LB listed i
  lt : p ≤ ax.length
  heap : ∀ (k : Nat) (x : AOp), ax[k]? = some x → x.ins.heap = true → (k < p ↔ LB listed k)
  env : ∀ t, (∃ i x, ax[i]? = some x ∧ LB listed i ∧ x.dst = some t ∧ ê t = E ax.length t) ∨ ((∀ i x, ax[i]? = some x → x.dst = some t → ¬ LB listed i) ∧ ê t = E 0 t)
  st : St X n ê (H p) a w C
  post : Post X w0 C0 nv0 w C (H p).nv

theorem mid_step {ops : Array Oper} {b : List Nat} {ax : List AOp} {ls ts : List (Nat × List Nat)} {E : Nat → AEnv} {H : Nat → Hp} {w0 : World} {C0 : Conc} {nv0 p j : Nat} {listed : Array Bool} {K : Act → World → Prop} {Q : Exit → Act → World → Prop}
    (hX : XrOk P xr) (hH : HdOk P hd) (hE : ∀ t, t ∈ eqs → EqOk P t) (hc : compOps P mset eqs ops ops.toList = some ax) (ht : tmpsOk n ax = true) (O : Ord ops b ax) (S : Seq xr hd 0 ax ls ts E H) (hap : apartOk b ls ts = true)
    (M : Mid X n b ax E H w0 C0 nv0 listed p ê a w C) (hj : j ∈ Region.ready .any ops listed) (hK : ∀ p' ê' a' w' C', Mid X n b ax E H w0 C0 nv0 (listed.setIfInBounds j true) p' ê' a' w' C' → K a' w') : wpOp P ops Q j K a w := by
  obtain ⟨hl, hget⟩ := compOps_get hc
  obtain ⟨hnl, o, ho, hedges⟩ := mem_ready.1 hj
  obtain ⟨x, hx, hcx⟩ := hget j o (by simpa using ho)
  have hjl : j < ax.length := (List.getElem?_eq_some_iff.1 hx).1
  have hsz : ops.size = ax.length := by rw [hl]; simp
  have hjs : j < listed.size := by rw [M.size]; exact hjl
  have hLj : ¬ LB listed j := by
    unfold LB
    simp only [Array.getD_eq_getD_getElem?, Array.getElem?_eq_getElem hjs, Option.getD_some] at hnl ⊢
    simp [hnl]
  have R1 : ∀ i, i < ax.length → bit (b.getD j 0) i = true → LB listed i := by
    intro i hi hb
    obtain ⟨ed, he, hbd, h1⟩ := O.mask j o ho i (by omega) hb
    have h2 : LB listed ed.on := hedges ed he hbd
    rcases h1 with h1 | h1
    · rw [h1]; exact h2
    · exact M.closed _ h2 i hi h1
  have R2 : ∀ i, LB listed i → bit (b.getD i 0) j = true → False := fun i hi hb => hLj (M.closed i hi j hjl hb)
  have R3 : ∀ i, i < ax.length → told b i j = true → (LB listed i ↔ i < j) := by
    intro i hi htold
    unfold told at htold
    split at htold
    · rename_i hlt
      exact ⟨fun _ => hlt, fun _ => R1 i hi htold⟩
    · rename_i hlt
      exact ⟨fun hL => (R2 i hL htold).elim, fun hh => absurd hh hlt⟩
  -- what it reads
  have hrd : ∀ t ∈ x.rds, ê t = E j t := by
    intro t htr
    rcases M.env t with ⟨i, y, hy, hLi, hd, he⟩ | ⟨hno, he⟩
    · have hij : i ≠ j := fun hh => hLj (hh ▸ hLi)
      have hil : i < ax.length := (List.getElem?_eq_some_iff.1 hy).1
      have hlt : i < j := (R3 i hil ((O.uniq i j t y x hy hx hd hij).2 htr)).1 hLi
      have hother : ∀ m z, ax[m]? = some z → m ≠ i → z.dst ≠ some t := fun m z hz hm => (O.uniq i m t y z hy hz hd (Ne.symm hm)).1
      rw [he, seq_env S (a := i + 1) (b := ax.length) (by omega) (Nat.le_refl _) (fun m z h1 h2 hz => hother m z hz (by omega)), seq_env S (a := i + 1) (b := j) (by omega) (by omega) (fun m z h1 h2 hz => hother m z hz (by omega))]
    · rw [he, seq_env S (a := 0) (b := j) (by omega) (by omega) (fun m z h1 h2 hz hd => ?_)]
      have hml : m < ax.length := (List.getElem?_eq_some_iff.1 hz).1
      exact hno m z hz hd ((R3 m hml ((O.uniq m j t z x hz hx hd (by omega)).2 htr)).2 h2)
  -- where the heap stands
  have hheap : x.ins.heap = true → p ≤ j ∧ H p = H j := by
    intro hh
    have hpj : p ≤ j := by
      have := M.heap j x hx hh
      by_cases h1 : j < p
      · exact absurd (this.1 h1) hLj
      · omega
    refine ⟨hpj, (seq_heap S hpj (by omega) fun m z h1 h2 hz => ?_).symm⟩
    cases hzh : z.ins.heap with
    | false => rfl
    | true =>
      have hml : m < ax.length := (List.getElem?_eq_some_iff.1 hz).1
      have h3 := (R3 m hml (O.heap m j z x hz hx hzh hh (by omega))).2 h2
      have := (M.heap m z hz hzh).2 h3
      omega
  have hobj : x.ins.heap = false → ∀ v h1, astep xr hd x.ins (E j) (H j) = some (v, h1) → (x.guard = none ∨ ∃ t b, x.guard = some (t, b) ∧ E j t = .iv (.bool b)) → ∀ k ∈ foot x.ins (E j), (H p).objs[k]? = (H j).objs[k]? := by
    intro hh v h1 ha hg k hk
    obtain ⟨l, hl1, hkl⟩ := S.look j x hx hh v h1 ha hg k hk
    rw [Nat.zero_add] at hl1
    have hnt : ∀ m z, ax[m]? = some z → z.ins.heap = true → told b j m = false → ∀ q, (0 + m, q) ∈ ts → k ∉ q := by
      intro m z hz hzh htold q hq hkq
      have := List.all_eq_true.1 hap _ hl1
      have := List.all_eq_true.1 this _ hq
      rw [Nat.zero_add] at this
      simp only [htold, Bool.false_or] at this
      have h5 : meet l q = true := List.any_eq_true.2 ⟨k, hkl, by simpa using hkq⟩
      simp [h5] at this
    rcases Nat.le_total p j with hpj | hjp
    · refine (seq_obj S hpj (by omega) fun m z h3 h4 hz hzh => hnt m z hz hzh ?_).symm
      have hml : m < ax.length := (List.getElem?_eq_some_iff.1 hz).1
      have hnL : ¬ LB listed m := fun hL => by have := (M.heap m z hz hzh).2 hL; omega
      unfold told
      rw [if_neg (by omega)]
      cases hb : bit (b.getD j 0) m with
      | false => rfl
      | true => exact absurd (R1 m hml hb) hnL
    · refine seq_obj S hjp M.lt fun m z h3 h4 hz hzh => hnt m z hz hzh ?_
      have hmj : m ≠ j := fun hm => by subst hm; rw [hx] at hz; cases hz; rw [hh] at hzh; cases hzh
      have hL : LB listed m := (M.heap m z hz hzh).1 h4
      unfold told
      rw [if_pos (by omega)]
      cases hb : bit (b.getD m 0) j with
      | false => rfl
      | true => exact (R2 m hL hb).elim
  obtain ⟨v, hv, hrun, hsame⟩ := arun1_move (ê := ê) (ĥ := H p) (S.run j x hx) hrd (fun hh => (hheap hh).2) hobj
  have htx : ∀ t ∈ x.rds, t < n := by
    have := List.all_eq_true.1 ht x (List.mem_of_getElem? hx)
    simp only [Bool.and_eq_true, List.all_eq_true, decide_eq_true_eq] at this
    exact this.2
  refine wpOp_sound hX hH hE ho hcx M.st htx hrun fun a' w' C' hs' hp' => ?_
  have hcl : ∀ i, LB (listed.setIfInBounds j true) i → ∀ k, k < ax.length → bit (b.getD i 0) k = true → LB (listed.setIfInBounds j true) k := by
    intro i hi k hk hb
    rw [LB_set hjs] at hi ⊢
    rcases hi with rfl | hi
    · exact .inr (R1 k hk hb)
    · exact .inr (M.closed i hi k hk hb)
  have henv : ∀ t, (∃ i y, ax[i]? = some y ∧ LB (listed.setIfInBounds j true) i ∧ y.dst = some t ∧ upd ê x.dst v t = E ax.length t) ∨ ((∀ i y, ax[i]? = some y → y.dst = some t → ¬ LB (listed.setIfInBounds j true) i) ∧ upd ê x.dst v t = E 0 t) := by
    intro t
    by_cases hd : x.dst = some t
    · refine .inl ⟨j, x, hx, (LB_set hjs).2 (.inl rfl), hd, ?_⟩
      rw [seq_env S (a := j + 1) (b := ax.length) (by omega) (Nat.le_refl _) (fun m z h1 h2 hz => (O.uniq j m t x z hx hz hd (by omega)).1), hv, hd]
      simp [upd]
    · have hu : upd ê x.dst v t = ê t := by
        cases hq : x.dst with
        | none => rfl
        | some d => simp only [upd]; rw [if_neg (fun hh => hd (by rw [hq, hh]))]
      rw [hu]
      rcases M.env t with ⟨i, y, hy, hLi, hd', he⟩ | ⟨hno, he⟩
      · exact .inl ⟨i, y, hy, (LB_set hjs).2 (.inr hLi), hd', he⟩
      · refine .inr ⟨fun i y hy hyd hLi => ?_, he⟩
        rcases (LB_set hjs).1 hLi with rfl | hLi
        · rw [hx] at hy; cases hy; exact hd hyd
        · exact hno i y hy hyd hLi
  cases hh : x.ins.heap with
  | true =>
    rw [hh] at hs' hp'
    simp only [if_true] at hs' hp'
    refine hK (j + 1) _ a' w' C' ⟨by simp [M.size], hcl, hjl, fun k y hy hyh => ?_, henv, hs', M.post.trans hp'⟩
    rw [LB_set hjs]
    by_cases hkj : k = j
    · subst hkj; simp
    · have hkl : k < ax.length := (List.getElem?_eq_some_iff.1 hy).1
      have := R3 k hkl (O.heap k j y x hy hx hyh hh hkj)
      rw [this]
      omega
  | false =>
    rw [hh] at hs' hp'
    simp only [Bool.false_eq_true, if_false] at hs' hp'
    refine hK p _ a' w' C' ⟨by simp [M.size], hcl, M.lt, fun k y hy hyh => ?_, henv, hs', M.post.trans hp'⟩
    rw [LB_set hjs, M.heap k y hy hyh]
    constructor
    · exact .inr
    · rintro (rfl | h1)
      · rw [hx] at hy; cases hy; rw [hh] at hyh; cases hyh
      · exact h1

/-- How many have not come up. -/
def left (listed : Array Bool) (N : Nat) : Nat := (List.range N).countP fun j => !listed.getD j false
theorem left_set {listed : Array Bool} {N j : Nat} (hN : listed.size = N) (hj : j < N) (hL : ¬ LB listed j) : left (listed.setIfInBounds j true) N + 1 = left listed N := by
  unfold left
  have key : ∀ (l : List Nat), l.Nodup → (l.countP fun k => !(listed.setIfInBounds j true).getD k false) + (if j ∈ l then 1 else 0) = l.countP fun k => !listed.getD k false := by
    intro l
    induction l with
    | nil => intro _; rfl
    | cons k r ih =>
      intro hn
      rw [List.nodup_cons] at hn
      have := ih hn.2
      have hset := LB_set (listed := listed) (j := j) (k := k) (by omega)
      unfold LB at hset hL
      simp only [List.countP_cons]
      by_cases hk : k = j
      · subst hk
        have h1 : (listed.setIfInBounds k true).getD k false = true := hset.2 (.inl rfl)
        have h2 : listed.getD k false = false := by simpa using hL
        simp only [h1, h2, List.mem_cons, true_or, if_true]
        simp only [hn.1, if_false] at this
        simp only [Bool.not_true, Bool.not_false, if_true, Bool.false_eq_true, if_false]
        omega
      · have h1 : (listed.setIfInBounds j true).getD k false = listed.getD k false := by
          cases hq : listed.getD k false with
          | true => exact hset.2 (.inr hq)
          | false =>
            cases hq2 : (listed.setIfInBounds j true).getD k false with
            | false => rfl
            | true =>
              rcases hset.1 hq2 with h3 | h3
              · exact absurd h3 hk
              · rw [hq] at h3; cases h3
        rw [h1]
        have h2 : (j ∈ k :: r) ↔ j ∈ r := by simp [Ne.symm hk]
        simp only [h2]
        omega
  have := key (List.range N) List.nodup_range
  simpa [hj] using this
theorem left_zero {listed : Array Bool} {N : Nat} (h : left listed N = 0) (j : Nat) (hj : j < N) : LB listed j := by
  unfold left at h
  have := List.countP_eq_zero.1 h j (List.mem_range.2 hj)
  simpa [LB] using this

/-- If none may come up, all have. -/
theorem ready_nil {ops : Array Oper} {b : List Nat} {ax : List AOp} {listed : Array Bool} (O : Ord ops b ax) (hs : listed.size = ops.size) (hr : Region.ready .any ops listed = []) : ∀ j, j < ops.size → LB listed j := by
  intro j
  induction j using Nat.strongRecOn with
  | ind j ih =>
    intro hj
    by_cases hL : LB listed j
    · exact hL
    · exfalso
      have : j ∈ Region.ready .any ops listed := by
        refine mem_ready.2 ⟨?_, ops[j], Array.getElem?_eq_getElem hj, fun ed he hb => ih ed.on (O.edge j _ (Array.getElem?_eq_getElem hj) ed he hb) (by have := O.edge j _ (Array.getElem?_eq_getElem hj) ed he hb; omega)⟩
        unfold LB at hL
        simp only [Array.getD_eq_getD_getElem?, Array.getElem?_eq_getElem (show j < listed.size by omega), Option.getD_some] at hL ⊢
        simpa using hL
      rw [hr] at this
      simp at this

theorem mid_end {b : List Nat} {ax : List AOp} {ls ts : List (Nat × List Nat)} {E : Nat → AEnv} {H : Nat → Hp} {w0 : World} {C0 : Conc} {nv0 p : Nat} {listed : Array Bool} (S : Seq xr hd 0 ax ls ts E H)
    (M : Mid X n b ax E H w0 C0 nv0 listed p ê a w C) (hall : ∀ j, j < ax.length → LB listed j) : ê = E ax.length ∧ H p = H ax.length := by
  constructor
  · funext t
    rcases M.env t with ⟨_, _, _, _, _, he⟩ | ⟨hno, he⟩
    · exact he
    · rw [he, seq_env S (a := 0) (b := ax.length) (by omega) (Nat.le_refl _) (fun m z h1 h2 hz hd => hno m z hz hd (hall m h2))]
  · refine (seq_heap S M.lt (Nat.le_refl _) fun m z h1 h2 hz => ?_).symm
    cases hzh : z.ins.heap with
    | false => rfl
    | true => have := (M.heap m z hz hzh).2 (hall m h2); omega

theorem regD_sound {ops : Array Oper} {b : List Nat} {ax : List AOp} {id : Nat} {Q : Exit → Act → World → Prop} (hm : P.follows .mixedOrders = true) (hX : XrOk P xr) (hH : HdOk P hd) (hE : ∀ t, t ∈ eqs → EqOk P t) (hc : compOps P mset eqs ops ops.toList = some ax) (ht : tmpsOk n ax = true) (ho : orderOk ops b ax = true)
    (hs : St X n e h a w C) (hr : arunD xr hd b ax e h = some (e', h')) (hQ : ∀ a' w' C', St X n e' h' a' w' C' → Post X w C h.nv w' C' h'.nv → Q .normal a' w') : (Code.region id ops true).wp P Q a w := by
  refine wp_region_any hm ?_
  have O := ord_of ho
  obtain ⟨hl, _⟩ := compOps_get hc
  have hsz : ops.size = ax.length := by rw [hl]; simp
  unfold arunD at hr
  obtain ⟨⟨ls, ts, e1, h1⟩, hr1, hr2⟩ := bind_some hr
  simp only at hr2
  split at hr2
  · rename_i hap
    simp only [Option.some.injEq, Prod.mk.injEq] at hr2
    obtain ⟨rfl, rfl⟩ := hr2
    obtain ⟨E, H, hE0, hH0, hEn, hHn, S⟩ := seq_of hX hr1
    have R0 : Res X w C h [] (.tup []) h undef { w with drawn := w.drawn + 1 } C := Res.quiet rfl rfl rfl rfl undef_rel
    have hst0 : St X n e h a { w with drawn := w.drawn + 1 } C := by
      have := hs.put (v := .tup []) (u := undef) (hs.tot.res R0) (hs.tot.resExt R0) R0.r none
      exact this
    have M0 : Mid X n b ax E H w C h.nv (Array.replicate ops.size false) 0 e a { w with drawn := w.drawn + 1 } C := by
      have hno : ∀ j, ¬ LB (Array.replicate ops.size false) j := by
        intro j hj
        unfold LB at hj
        simp only [Array.getD_eq_getD_getElem?, Array.getElem?_replicate] at hj
        split at hj <;> simp at hj
      exact ⟨by simp [hsz], fun j hj => absurd hj (hno j), Nat.zero_le _, fun k x hx hh => ⟨fun hk => absurd hk (by omega), fun hL => absurd hL (hno k)⟩, fun t => .inr ⟨fun i x _ _ => hno i, by rw [hE0]⟩, by rw [hH0]; exact hst0, by rw [hH0]; exact R0.D.post (hs.tot.free _)⟩
    have key : ∀ (f : Nat) (listed : Array Bool) (p : Nat) (ê : AEnv) (a : Act) (w1 : World) (C1 : Conc), left listed ax.length ≤ f → Mid X n b ax E H w C h.nv listed p ê a w1 C1 → wpAny P .any ops Q f listed a w1 := by
      have fin : ∀ (listed : Array Bool) (p : Nat) (ê : AEnv) (a : Act) (w1 : World) (C1 : Conc), (∀ j, j < ax.length → LB listed j) → Mid X n b ax E H w C h.nv listed p ê a w1 C1 → Q .normal a w1 := by
        intro listed p ê a w1 C1 hall M
        obtain ⟨h2, h3⟩ := mid_end S M hall
        have hst := M.st
        have hpo := M.post
        rw [h2, h3, hEn, hHn] at hst
        rw [h3, hHn] at hpo
        exact hQ _ _ _ hst hpo
      intro f
      induction f with
      | zero =>
        intro listed p ê a w1 C1 hf M
        have hall := left_zero (listed := listed) (N := ax.length) (by omega)
        refine ⟨?_, fin _ _ _ _ _ _ hall M⟩
        cases hq : Region.ready .any ops listed with
        | nil => rfl
        | cons j r =>
          have hj : j ∈ Region.ready .any ops listed := by rw [hq]; simp
          obtain ⟨h1, o, ho, _⟩ := mem_ready.1 hj
          have hjl : j < ax.length := by rw [← hsz]; exact (Array.getElem?_eq_some_iff.1 ho).1
          have h2 := hall j hjl
          unfold LB at h2
          simp only [Array.getD_eq_getD_getElem?, Array.getElem?_eq_getElem (show j < listed.size by rw [M.size]; exact hjl), Option.getD_some] at h1 h2
          rw [h1] at h2
          cases h2
      | succ f ih =>
        intro listed p ê a w1 C1 hf M
        refine ⟨fun hnil => fin _ _ _ _ _ _ (fun j hj => ready_nil O (by rw [M.size, hsz]) hnil j (by omega)) M, fun j hj => ?_⟩
        refine mid_step hX hH hE hc ht O S hap M hj fun p' ê' a' w' C' M' => ih _ _ _ _ _ _ ?_ M'
        obtain ⟨h1, o, ho, _⟩ := mem_ready.1 hj
        have hjl : j < ax.length := by rw [← hsz]; exact (Array.getElem?_eq_some_iff.1 ho).1
        have hLj : ¬ LB listed j := by
          unfold LB
          simp only [Array.getD_eq_getD_getElem?, Array.getElem?_eq_getElem (show j < listed.size by rw [M.size]; exact hjl), Option.getD_some] at h1 ⊢
          simp [h1]
        have := left_set M.size hjl hLj
        omega
    refine key _ _ _ _ _ _ _ ?_ M0
    rw [hsz]
    unfold left
    exact Nat.le_trans List.countP_le_length (by simp)
  · simp at hr2
end
end Go.Om
