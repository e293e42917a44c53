/-
  Om: a region whose order is open: the run in any order.
-/
import Derived.Test.YtihhnicfkeiglaaOm21
set_option linter.all false
namespace Go.Om
open Go Go.RowKit

section
variable {P : Program} {X : Nat → Prop} {w w' w'' : World} {C C' C'' : Conc} {h h' ĥ : Hp} {v : AV} {e ê e' : AEnv} {i : AI} {xr : Xr} {hd : Hdl} {mset eqs : List Nat} {n : Nat} {a : Act}

/-- The run in the text's order, state by state. -/
structure Seq (xr : Xr) (hd : Hdl) (m : Nat) (ax : List AOp) (ls ts : List (Nat × List Nat)) (E : Nat → AEnv) (H : Nat → Hp) : Prop where
  run : ∀ (j : Nat) (x : AOp), ax[j]? = some x → arun xr hd [x] (E j) (H j) = some (E (j + 1), H (j + 1))
  look : ∀ (j : Nat) (x : AOp), ax[j]? = some x → x.ins.heap = false → ∀ v h1, astep xr hd x.ins (E j) (H j) = some (v, h1) → (x.guard = none ∨ ∃ t b, x.guard = some (t, b) ∧ E j t = .iv (.bool b)) → ∀ k ∈ foot x.ins (E j), ∃ l, (m + j, l) ∈ ls ∧ k ∈ l
  old : ∀ (j : Nat) (x : AOp), ax[j]? = some x → ∀ k, (∀ l, (m + j, l) ∈ ts → k ∉ l) → (H (j + 1)).objs[k]? = (H j).objs[k]?
  still : ∀ (j : Nat) (x : AOp), ax[j]? = some x → x.ins.heap = false → H (j + 1) = H j

theorem putNe_mem {j : Nat} {l : List Nat} {r : List (Nat × List Nat)} {k : Nat} (hk : k ∈ l) : (j, l) ∈ putNe j l r := by
  cases l with
  | nil => simp at hk
  | cons a t => simp [putNe]
theorem putNe_sub {j : Nat} {l : List Nat} {r : List (Nat × List Nat)} {q : Nat × List Nat} (hq : q ∈ r) : q ∈ putNe j l r := by
  cases l with
  | nil => exact hq
  | cons a t => simp [putNe, hq]

theorem seq_of (hX : XrOk P xr) : ∀ {ax : List AOp} {m : Nat} {e : AEnv} {h : Hp} {ls ts : List (Nat × List Nat)} {e' : AEnv} {h' : Hp}, arunF xr hd m ax e h = some (ls, ts, e', h') →
    ∃ (E : Nat → AEnv) (H : Nat → Hp), E 0 = e ∧ H 0 = h ∧ E ax.length = e' ∧ H ax.length = h' ∧ Seq xr hd m ax ls ts E H
  | [], m, e, h, ls, ts, e', h', hr => by
    simp only [arunF, Option.some.injEq, Prod.mk.injEq] at hr
    obtain ⟨_, _, rfl, rfl⟩ := hr
    exact ⟨fun _ => e, fun _ => h, rfl, rfl, rfl, rfl, ⟨fun j x hx => by simp at hx, fun j x hx => by simp at hx, fun j x hx => by simp at hx, fun j x hx => by simp at hx⟩⟩
  | x :: r, m, e, h, ls, ts, e', h', hr => by
    have cons : ∀ (e1 : AEnv) (h1 : Hp) (ls1 ts1 : List (Nat × List Nat)), arunF xr hd (m + 1) r e1 h1 = some (ls1, ts1, e', h') → arun xr hd [x] e h = some (e1, h1) → (∀ q ∈ ls1, q ∈ ls) → (∀ q ∈ ts1, q ∈ ts) →
        (x.ins.heap = false → ∀ v h1, astep xr hd x.ins e h = some (v, h1) → (x.guard = none ∨ ∃ t b, x.guard = some (t, b) ∧ e t = .iv (.bool b)) → ∀ k ∈ foot x.ins e, ∃ l, (m, l) ∈ ls ∧ k ∈ l) → (∀ k, (∀ l, (m, l) ∈ ts → k ∉ l) → h1.objs[k]? = h.objs[k]?) →
        (x.ins.heap = false → h1 = h) → ∃ (E : Nat → AEnv) (H : Nat → Hp), E 0 = e ∧ H 0 = h ∧ E (x :: r).length = e' ∧ H (x :: r).length = h' ∧ Seq xr hd m (x :: r) ls ts E H := by
      intro e1 h1 ls1 ts1 hr1 ha hls hts hl ho hst
      obtain ⟨E, H, h2, h3, h4, h5, S⟩ := seq_of hX hr1
      refine ⟨fun j => match j with | 0 => e | j + 1 => E j, fun j => match j with | 0 => h | j + 1 => H j, rfl, rfl, by simpa using h4, by simpa using h5, ⟨?_, ?_, ?_, ?_⟩⟩
      · intro j y hy
        cases j with
        | zero => simp at hy; subst hy; simp only [h2, h3]; exact ha
        | succ j => exact S.run j y (by simpa using hy)
      · intro j y hy
        cases j with
        | zero => simp at hy; subst hy; exact hl
        | succ j =>
          intro hh v h1 ha1 hg k hk
          obtain ⟨l, h6, h7⟩ := S.look j y (by simpa using hy) hh v h1 ha1 hg k hk
          exact ⟨l, by rw [show m + (j + 1) = m + 1 + j by omega]; exact hls _ h6, h7⟩
      · intro j y hy
        cases j with
        | zero => simp at hy; subst hy; simp only [h3]; exact ho
        | succ j =>
          intro k hk
          exact S.old j y (by simpa using hy) k (fun l hl => hk l (by rw [show m + (j + 1) = m + 1 + j by omega]; exact hts _ hl))
      · intro j y hy
        cases j with
        | zero => simp at hy; subst hy; simp only [h3]; exact hst
        | succ j => exact S.still j y (by simpa using hy)
    have run : ∀ (y : AV × Hp), astep xr hd x.ins e h = some y → arun xr hd [x] e h = some (upd e x.dst y.1, y.2) → ((arunF xr hd (m + 1) r (upd e x.dst y.1) y.2).map fun z => (putNe m (lookOf x.ins e) z.1, putNe m (touch x.ins e h y.2) z.2.1, z.2.2)) = some (ls, ts, e', h') →
        ∃ (E : Nat → AEnv) (H : Nat → Hp), E 0 = e ∧ H 0 = h ∧ E (x :: r).length = e' ∧ H (x :: r).length = h' ∧ Seq xr hd m (x :: r) ls ts E H := by
      rintro ⟨v, h1⟩ ha hru hm
      obtain ⟨⟨ls1, ts1, e2, h2⟩, hr1, hz⟩ := map_some hm
      simp only [Prod.mk.injEq] at hz
      obtain ⟨rfl, rfl, rfl, rfl⟩ := hz
      refine cons _ _ ls1 ts1 hr1 hru (fun q hq => putNe_sub hq) (fun q hq => putNe_sub hq) ?_ ?_ ?_
      · intro hh v' h1' _ _ k hk
        have : lookOf x.ins e = foot x.ins e := by simp [lookOf, hh]
        exact ⟨lookOf x.ins e, putNe_mem (by rw [this]; exact hk), by rw [this]; exact hk⟩
      · intro k hk
        exact touch_old hX ha k (fun hkt => hk _ (putNe_mem hkt) hkt)
      · intro hh
        exact (astep_loc (ĥ := h) hh (fun _ _ => rfl) ha).1
    have skip : arun xr hd [x] e h = some (upd e x.dst (.tup []), h) → (¬ (x.guard = none ∨ ∃ t b, x.guard = some (t, b) ∧ e t = .iv (.bool b))) → arunF xr hd (m + 1) r (upd e x.dst (.tup [])) h = some (ls, ts, e', h') →
        ∃ (E : Nat → AEnv) (H : Nat → Hp), E 0 = e ∧ H 0 = h ∧ E (x :: r).length = e' ∧ H (x :: r).length = h' ∧ Seq xr hd m (x :: r) ls ts E H := by
      intro hru hng hr1
      exact cons _ _ ls ts hr1 hru (fun q hq => hq) (fun q hq => hq) (fun _ v h1 _ hg => absurd hg hng) (fun _ _ => rfl) (fun _ => rfl)
    simp only [arunF] at hr
    cases hg : x.guard with
    | none =>
      rw [hg] at hr
      simp only at hr
      obtain ⟨y, h1, h2⟩ := bind_some hr
      exact run y h1 (by simp [arun, hg, h1]) h2
    | some p =>
      obtain ⟨t, want⟩ := p
      rw [hg] at hr
      simp only at hr
      split at hr
      · rename_i b hb
        split at hr
        · rename_i hbw
          obtain ⟨y, h1, h2⟩ := bind_some hr
          exact run y h1 (by simp [arun, hg, h1, hb, hbw]) h2
        · rename_i hbw
          refine skip (by simp [arun, hg, hb, hbw]) ?_ hr
          rw [hg]
          rintro (h1 | ⟨t', b', h1, h2⟩)
          · simp at h1
          · simp only [Option.some.injEq, Prod.mk.injEq] at h1
            obtain ⟨rfl, rfl⟩ := h1
            rw [hb] at h2
            simp only [AV.iv.injEq, IV.bool.injEq] at h2
            exact hbw h2
      · rename_i hb
        refine skip (by simp [arun, hg, hb]) ?_ hr
        rw [hg]
        rintro (h1 | ⟨t', b', h1, h2⟩)
        · simp at h1
        · simp only [Option.some.injEq, Prod.mk.injEq] at h1
          obtain ⟨rfl, rfl⟩ := h1
          rw [hb] at h2
          simp at h2
      · simp at hr

theorem arun1_env {x : AOp} (hr : arun xr hd [x] e h = some (e', h')) : ∃ v, e' = upd e x.dst v := by
  obtain ⟨v, hv, _⟩ := arun1_move (ê := e) (ĥ := h) hr (fun _ _ => rfl) (fun _ => rfl) (fun _ _ _ _ _ _ _ => rfl)
  exact ⟨v, hv⟩

theorem seq_env {ax : List AOp} {ls ts : List (Nat × List Nat)} {m : Nat} {E : Nat → AEnv} {H : Nat → Hp} (S : Seq xr hd m ax ls ts E H) {t : Nat} : ∀ {b a : Nat}, a ≤ b → b ≤ ax.length → (∀ j x, a ≤ j → j < b → ax[j]? = some x → x.dst ≠ some t) → E b t = E a t
  | 0, a, hab, _, _ => by rw [show a = 0 by omega]
  | b + 1, a, hab, hb, hw => by
    by_cases h1 : a = b + 1
    · rw [h1]
    · have hx : ax[b]? = some ax[b] := List.getElem?_eq_getElem (by omega)
      obtain ⟨v, hv⟩ := arun1_env (S.run b _ hx)
      have h2 := hw b _ (by omega) (by omega) hx
      rw [hv, ← seq_env S (b := b) (a := a) (by omega) (by omega) (fun j x h3 h4 => hw j x h3 (by omega))]
      cases hd : (ax[b]).dst with
      | none => rfl
      | some d =>
        simp only [upd]
        rw [if_neg (fun hh => h2 (by rw [hd, hh]))]
theorem seq_obj {ax : List AOp} {ls ts : List (Nat × List Nat)} {m : Nat} {E : Nat → AEnv} {H : Nat → Hp} (S : Seq xr hd m ax ls ts E H) {k : Nat} : ∀ {b a : Nat}, a ≤ b → b ≤ ax.length → (∀ j x, a ≤ j → j < b → ax[j]? = some x → x.ins.heap = true → ∀ l, (m + j, l) ∈ ts → k ∉ l) → (H b).objs[k]? = (H a).objs[k]?
  | 0, a, hab, _, _ => by rw [show a = 0 by omega]
  | b + 1, a, hab, hb, hw => by
    by_cases h1 : a = b + 1
    · rw [h1]
    · have hx : ax[b]? = some ax[b] := List.getElem?_eq_getElem (by omega)
      rw [← seq_obj S (b := b) (a := a) (by omega) (by omega) (fun j x h3 h4 => hw j x h3 (by omega))]
      cases hh : (ax[b]).ins.heap with
      | true => exact S.old b _ hx k (hw b _ (by omega) (by omega) hx hh)
      | false => rw [S.still b _ hx hh]
theorem seq_heap {ax : List AOp} {ls ts : List (Nat × List Nat)} {m : Nat} {E : Nat → AEnv} {H : Nat → Hp} (S : Seq xr hd m ax ls ts E H) : ∀ {b a : Nat}, a ≤ b → b ≤ ax.length → (∀ j x, a ≤ j → j < b → ax[j]? = some x → x.ins.heap = false) → H b = H a
  | 0, a, hab, _, _ => by rw [show a = 0 by omega]
  | b + 1, a, hab, hb, hw => by
    by_cases h1 : a = b + 1
    · rw [h1]
    · have hx : ax[b]? = some ax[b] := List.getElem?_eq_getElem (by omega)
      rw [← seq_heap S (b := b) (a := a) (by omega) (by omega) (fun j x h3 h4 => hw j x h3 (by omega))]
      exact S.still b _ hx (hw b _ (by omega) (by omega) hx)
end
end Go.Om
