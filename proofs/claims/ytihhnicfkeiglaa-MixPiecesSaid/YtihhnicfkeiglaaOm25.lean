/-
  Om: what a function gives.
-/
import Derived.Test.YtihhnicfkeiglaaOm24
set_option linter.all false
namespace Go.Om
open Go Go.RowKit

section
variable {P : Program} {X : Nat → Prop} {w w' w'' : World} {C C' C'' : Conc} {h h' ĥ : Hp} {v : AV} {e ê e' : AEnv} {i : AI} {xr : Xr} {hd : Hdl} {mset eqs : List Nat} {n : Nat} {a : Act} {u : Value}

def readVar (tmps : Array Value) : ResultVar → Sem Value
  | .tmp t => pure (tmps.getD t undef)
  | .cell a t => do loadVar t (← asAddr (tmps.getD a undef))

theorem asAddr_run (x : Addr) : (asAddr (.pointer (some x))).run P w = .ok x w := rfl
theorem tmps_getD {tmps : Array Value} {t : Nat} (ht : t < tmps.size) : tmps[t]? = some (tmps.getD t undef) := by
  simp [Array.getD_eq_getD_getElem?, ht]

theorem resvar_sound {r : ResultVar} {rs : List ResultVar} {x : ARes} {xs : List ARes} (hc : compRes P n (r :: rs) = some (x :: xs)) (ha : ares e h x = some v) (hs : St X n e h a w C) : compRes P n rs = some xs ∧ ∃ u, (readVar a.tmps r).run P w = .ok u w ∧ ARel w (Shut X C) C h.nv v u := by
  cases r with
  | tmp t =>
    simp only [compRes] at hc
    split at hc
    · rename_i ht
      obtain ⟨ys, h1, h2⟩ := map_some hc
      cases h2
      simp only [ares, Option.some.injEq] at ha
      subst ha
      exact ⟨h1, _, rfl, hs.tmp t _ ht (tmps_getD (Nat.lt_of_lt_of_le ht hs.size))⟩
    · simp at hc
  | cell c t =>
    simp only [compRes] at hc
    split at hc
    · rename_i ht
      obtain ⟨g, hg, hc2⟩ := bind_some hc
      obtain ⟨sz, hn, hc3⟩ := bind_some hc2
      obtain ⟨ys, h1, h2⟩ := map_some hc3
      have hr := hs.tmp c _ ht (tmps_getD (Nat.lt_of_lt_of_le ht hs.size))
      have pre : ∀ k o, k ∈ refs (e c) → h.objs[k]? = some o → ObjOk w (Shut X C) C h.nv k o := fun k o _ ho => hs.tot.ok k o ho
      cases g with
      | true =>
        simp only [if_true] at h2
        cases h2
        simp only [ares] at ha
        split at ha
        · rename_i k ver i1 j1 hpe
          obtain ⟨ds, h3, h4⟩ := bind_some ha
          split at h4
          · rename_i hle
            simp only [Option.some.injEq] at h4
            subst h4
            have hat : AtPtr h (e c) = some (ds.drop j1) := by simp [AtPtr, hpe, h3]
            obtain ⟨b, off, us, hu, hrs, hcell⟩ := atPtr_rel hat pre hr
            have hl : (us.take sz).length = sz := by rw [List.length_take, ← hrs.1, List.length_drop]; omega
            have hrun := run_loadCells_list (P := P) w ⟨b, off, none⟩ (us.take sz) (fun j v hv => by
              rw [List.getElem?_take] at hv
              split at hv
              · rw [add_none]; exact hcell _ _ hv
              · simp at hv)
            rw [hl] at hrun
            have hts := hrs.take sz
            refine ⟨h1, .agg (us.take sz).toArray, ?_, .agg _ _ hts.1 hts.2⟩
            show (do loadVar t (← asAddr (a.tmps.getD c undef)) : Sem Value).run P w = _
            rw [hu]
            simp [asAddr_run, loadVar, tagg_run hg, tsz_run hn, hrun]
          · simp at h4
        · simp at ha
      | false =>
        simp only [Bool.false_eq_true, if_false] at h2
        cases h2
        simp only [ares] at ha
        split at ha
        · rename_i k ver i1 j1 hpe
          obtain ⟨ds, h3, h4⟩ := bind_some ha
          have hat : AtPtr h (e c) = some (ds.drop j1) := by simp [AtPtr, hpe, h3]
          obtain ⟨b, off, us, hu, hrs, hcell⟩ := atPtr_rel hat pre hr
          obtain ⟨u, hu2, hru⟩ := hrs.get (j := 0) (by rw [List.getElem?_drop]; simpa using h4)
          have hc := hcell _ _ hu2
          refine ⟨h1, u, ?_, hru⟩
          show (do loadVar t (← asAddr (a.tmps.getD c undef)) : Sem Value).run P w = _
          rw [hu]
          simp [asAddr_run, loadVar, tagg_run hg] at hc ⊢
          simp [hc]
        · simp at ha
    · simp at hc

theorem resvars_sound : ∀ {rs : List ResultVar} {xs : List ARes} {vs : List AV}, compRes P n rs = some xs → aress e h xs = some vs → St X n e h a w C → ∃ us, (rs.mapM (readVar a.tmps)).run P w = .ok us w ∧ ARels w (Shut X C) C h.nv vs us
  | [], xs, vs, hc, ha, hs => by
    simp only [compRes, Option.some.injEq] at hc
    subst hc
    simp only [aress, Option.some.injEq] at ha
    subst ha
    exact ⟨[], by simp, .nil⟩
  | r :: rs, xs, vs, hc, ha, hs => by
    cases xs with
    | nil =>
      exfalso
      cases r <;> simp only [compRes] at hc <;> split at hc
      · obtain ⟨_, _, h2⟩ := map_some hc; cases h2
      · cases hc
      · obtain ⟨_, _, h2⟩ := bind_some hc
        obtain ⟨_, _, h3⟩ := bind_some h2
        obtain ⟨_, _, h4⟩ := map_some h3
        cases h4
      · cases hc
    | cons x xs =>
      simp only [aress] at ha
      obtain ⟨v, h1, h2⟩ := bind_some ha
      obtain ⟨vs', h3, rfl⟩ := map_some h2
      obtain ⟨h4, u, h5, h6⟩ := resvar_sound hc h1 hs
      obtain ⟨us, h7, h8⟩ := resvars_sound h4 h3 hs
      exact ⟨u :: us, by simp [h5, h7], .cons h6 h8⟩

theorem results_sound {fn : Func} {rs : List ARes} (hc : compRes P n fn.results.toList = some rs) (ha : aresult e h rs = some v) (hs : St X n e h a w C) : ∃ u, (results fn a.tmps).run P w = .ok u w ∧ ARel w (Shut X C) C h.nv v u := by
  unfold aresult at ha
  obtain ⟨vs, h1, h2⟩ := map_some ha
  obtain ⟨us, h3, h4⟩ := resvars_sound hc h1 hs
  have hm : (results fn a.tmps).run P w = .ok (if h : us.toArray.size = 1 then us.toArray[0] else .tuple us.toArray) w := by
    have : results fn a.tmps = (do let vs ← fn.results.mapM (readVar a.tmps); pure (if h : vs.size = 1 then vs[0] else .tuple vs)) := by
      unfold results
      congr 2
    rw [this, Array.mapM_eq_mapM_toList]
    simp [h3]
  refine ⟨_, hm, ?_⟩
  have hl := h4.1
  split at h2
  · rename_i v1
    subst h2
    match us, hl, h4 with
    | [u1], _, h4 =>
      simp only [List.size_toArray, List.length_cons, List.length_nil, Nat.zero_add, dite_true]
      exact h4.2 0 v1 u1 rfl rfl
  · rename_i hne
    subst h2
    have : us.toArray.size ≠ 1 := by
      intro hh
      have h5 : vs.length = 1 := by rw [hl]; simpa using hh
      match vs, h5, hne with
      | [v1], _, hne => exact hne v1 rfl
    rw [dif_neg this]
    exact .tup _ _ h4.1 h4.2
end
end Go.Om
