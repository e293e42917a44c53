/-
  Om: what an instruction hangs on, and what it leaves as it is.
-/
import Derived.Test.YtihhnicfkeiglaaOm19
set_option linter.all false
namespace Go.Om
open Go Go.RowKit

section
variable {h h' ĥ : Hp} {v : AV} {e ê : AEnv} {i : AI} {xr : Xr} {hd : Hdl}

theorem bnd_env {d : Nat} {o : Option Opd} (ho : ∀ y ∈ optl o, y.ev ê = y.ev e) : bnd ê d o = bnd e d o := by
  cases o with
  | none => rfl
  | some x => simp only [bnd]; rw [ho x (by simp [optl])]
theorem fillA_env : ∀ {ps : List (Nat × Nat × Opd)} {cs : List AV}, (∀ y ∈ ps.map (fun p => p.2.2), y.ev ê = y.ev e) → fillA ê ps cs = fillA e ps cs
  | [], cs, _ => rfl
  | (off, n, x) :: r, cs, ho => by
    simp only [fillA]
    rw [ho x (by simp)]
    split
    · split
      · split
        · exact fillA_env (fun y hy => ho y (by simp at hy ⊢; right; exact hy))
        · rfl
      · rfl
    · rfl
theorem partsI_env {esz : Nat} : ∀ {ps : List (Nat × Opd)}, (∀ y ∈ ps.map (fun p => p.2), y.ev ê = y.ev e) → partsI ê esz ps = partsI e esz ps
  | [], _ => rfl
  | (off, x) :: r, ho => by
    simp only [partsI]
    rw [ho x (by simp), partsI_env (ps := r) (fun y hy => ho y (by simp at hy ⊢; right; exact hy))]
theorem mnxs_env {mx : Bool} : ∀ {xs : List Opd} {a : AV}, (∀ y ∈ xs, y.ev ê = y.ev e) → mnxs mx ê a xs = mnxs mx e a xs
  | [], _, _ => rfl
  | x :: r, a, ho => by
    simp only [mnxs]
    rw [ho x (by simp)]
    congr 1
    funext b
    exact mnxs_env (fun y hy => ho y (by simp [hy]))
theorem map_env {xs : List Opd} (ho : ∀ y ∈ xs, y.ev ê = y.ev e) : xs.map (·.ev ê) = xs.map (·.ev e) := List.map_congr_left ho

theorem astep_env (ho : ∀ y ∈ i.opds, y.ev ê = y.ev e) : astep xr hd i ê h = astep xr hd i e h := by
  cases i <;> simp only [AI.opds] at ho <;> simp only [astep]
  case mov a => rw [ho a (by simp)]
  case pick c a b => rw [ho c (by simp), ho a (by simp), ho b (by simp)]
  case box t a => rw [ho a (by simp)]
  case ldA n p => rw [ho p (by simp)]
  case ld1 p => rw [ho p (by simp)]
  case st n p v => rw [ho p (by simp), ho v (by simp)]
  case fadr n p => rw [ho p (by simp)]
  case fld a n off x => rw [ho x (by simp)]
  case iadrA len esz p ix => rw [ho p (by simp), ho ix (by simp)]
  case iadrS esz x ix => rw [ho x (by simp), ho ix (by simp)]
  case idxA a len n x ix => rw [ho x (by simp), ho ix (by simp)]
  case idxStr x ix => rw [ho x (by simp), ho ix (by simp)]
  case slcStr x lo hi => rw [ho x (by simp)]; simp only [bnd_env (o := lo) (fun y hy => ho y (by simp [hy])), bnd_env (o := hi) (fun y hy => ho y (by simp [hy]))]
  case slcS esz x lo hi => rw [ho x (by simp)]; simp only [bnd_env (o := lo) (fun y hy => ho y (by simp [hy])), bnd_env (o := hi) (fun y hy => ho y (by simp [hy]))]
  case bin op x y => rw [ho x (by simp), ho y (by simp)]
  case binB op x y => rw [ho x (by simp), ho y (by simp)]
  case aeq t neg x y => rw [ho x (by simp), ho y (by simp)]
  case una op x => rw [ho x (by simp)]
  case cvtI k x => rw [ho x (by simp)]
  case cvtBS x => rw [ho x (by simp)]
  case cvtSB t x => rw [ho x (by simp)]
  case build zero parts => rw [fillA_env ho]
  case bslice t esz zero len parts => rw [partsI_env ho]
  case mslice t esz zero len => rw [ho len (by simp)]
  case mfn f caps => rw [map_env ho]
  case ext x n => rw [ho x (by simp)]
  case nilck x => rw [ho x (by simp)]
  case call m f args => rw [ho f (by simp), map_env (fun y hy => ho y (by simp [hy]))]
  case app t esz s x => rw [ho s (by simp), ho x (by simp)]
  case appS t s x => rw [ho s (by simp), ho x (by simp)]
  case appz t esz z s x => rw [ho s (by simp), ho x (by simp)]
  case len x => rw [ho x (by simp)]
  case lenStr x => rw [ho x (by simp)]
  case mnx mx xs =>
    cases xs with
    | nil => rfl
    | cons x r => simp only; rw [ho x (by simp), mnxs_env (fun y hy => ho y (by simp [hy]))]

theorem rowAt_loc {k ver : Nat} (hk : ĥ.objs[k]? = h.objs[k]?) : rowAt ĥ k ver = rowAt h k ver := by unfold rowAt; rw [hk]
theorem cellsAt_loc {k ver i : Nat} (hk : ĥ.objs[k]? = h.objs[k]?) : cellsAt ĥ k ver i = cellsAt h k ver i := by unfold cellsAt; rw [hk]
theorem elemsOf_loc {a : AV} (hk : ∀ k ∈ refs a, ĥ.objs[k]? = h.objs[k]?) : elemsOf ĥ a = elemsOf h a := by
  cases a with
  | iv x => cases x <;> rfl
  | osl k ver => simp only [elemsOf]; rw [rowAt_loc (hk _ (by simp [refs, refs1]))]
  | osub k ver off len => simp only [elemsOf]; rw [rowAt_loc (hk _ (by simp [refs, refs1]))]
  | _ => rfl

theorem foot_mem {y : Opd} (hc : i.cls ≠ .p) (hy : y ∈ i.opds) (hk : ∀ k ∈ foot i e, ĥ.objs[k]? = h.objs[k]?) : ∀ k ∈ refs (y.ev e), ĥ.objs[k]? = h.objs[k]? := fun k hr => hk k (mem_foot hy hr hc)

theorem astep_loc (hh : i.heap = false) (hk : ∀ k ∈ foot i e, ĥ.objs[k]? = h.objs[k]?) (ha : astep xr hd i e h = some (v, h')) : h' = h ∧ astep xr hd i e ĥ = some (v, ĥ) := by
  cases i <;> simp [AI.heap] at hh <;> simp only [astep] at ha ⊢
  case mov a => cases ha; exact ⟨rfl, rfl⟩
  case pick c a b => split at ha <;> simp at ha; obtain ⟨rfl, rfl⟩ := ha; exact ⟨rfl, rfl⟩
  case ldA n p =>
    have hp := foot_mem (y := p) (by simp [AI.cls]) (by simp [AI.opds]) hk
    split at ha
    · rename_i k v1 i1 j1 hpe
      rw [hpe] at hp
      rw [cellsAt_loc (hp k (by simp [refs, refs1]))]
      obtain ⟨cs, h1, h2⟩ := bind_some ha
      split at h2 <;> simp at h2
      rename_i hle
      obtain ⟨rfl, rfl⟩ := h2
      exact ⟨rfl, by rw [h1]; simp [hle]⟩
    · split at ha <;> simp at ha
      rename_i hle
      obtain ⟨rfl, rfl⟩ := ha
      exact ⟨rfl, by rw [if_pos hle]; simp [List.map_take]⟩
    · simp at ha
  case ld1 p =>
    have hp := foot_mem (y := p) (by simp [AI.cls]) (by simp [AI.opds]) hk
    split at ha
    · rename_i k v1 i1 j1 hpe
      rw [hpe] at hp
      rw [cellsAt_loc (hp k (by simp [refs, refs1]))]
      obtain ⟨cs, h1, h2⟩ := bind_some ha
      obtain ⟨z, h3, h4⟩ := map_some h2
      cases h4
      exact ⟨rfl, by rw [h1]; simp [h3]⟩
    · obtain ⟨z, h3, h4⟩ := map_some ha
      cases h4
      exact ⟨rfl, by simp [h3]⟩
    · simp at ha
  case fadr n p => split at ha <;> simp at ha <;> obtain ⟨rfl, rfl⟩ := ha <;> exact ⟨rfl, rfl⟩
  case fld a n off x =>
    split at ha
    · split at ha
      · rename_i hc
        split at ha <;> simp at ha
        rename_i hle
        obtain ⟨rfl, rfl⟩ := ha
        exact ⟨rfl, by simp [hc, hle]⟩
      · rename_i hc
        obtain ⟨z, h3, h4⟩ := map_some ha
        cases h4
        exact ⟨rfl, by simp [hc, h3]⟩
    · simp at ha
  case iadrA len esz p ix =>
    split at ha
    · split at ha
      · rename_i hb
        split at ha <;> simp at ha <;> obtain ⟨rfl, rfl⟩ := ha <;> exact ⟨rfl, by rw [if_pos hb]⟩
      · simp at ha
    · simp at ha
  case iadrS esz x ix =>
    have hp := foot_mem (y := x) (by simp [AI.cls]) (by simp [AI.opds]) hk
    split at ha
    · split at ha
      · rename_i hb
        rw [if_pos hb]
        split at ha
        · obtain ⟨d, h1, h2⟩ := bind_some ha
          split at h2 <;> simp at h2
          rename_i hd
          obtain ⟨rfl, rfl⟩ := h2
          exact ⟨rfl, by rw [h1]; simp [hd]⟩
        · rename_i k v1 hxe
          rw [hxe] at hp
          rw [rowAt_loc (hp k (by simp [refs, refs1]))]
          obtain ⟨r, h1, h2⟩ := bind_some ha
          split at h2
          · rename_i hs
            split at h2 <;> simp at h2
            rename_i hl
            obtain ⟨rfl, rfl⟩ := h2
            exact ⟨rfl, by rw [h1]; simp [hs, hl]⟩
          · simp at h2
        · rename_i k v1 off len hxe
          rw [hxe] at hp
          rw [rowAt_loc (hp k (by simp [refs, refs1]))]
          obtain ⟨r, h1, h2⟩ := bind_some ha
          split at h2
          · rename_i hs
            split at h2 <;> simp at h2
            rename_i hl
            obtain ⟨rfl, rfl⟩ := h2
            exact ⟨rfl, by rw [h1]; simp [hs, hl]⟩
          · simp at h2
        · simp at ha
      · simp at ha
    · simp at ha
  case idxA a len n x ix =>
    split at ha
    · split at ha
      · rename_i hb
        rw [if_pos hb]
        split at ha
        · split at ha
          · rename_i hc
            split at ha <;> simp at ha
            rename_i hle
            obtain ⟨rfl, rfl⟩ := ha
            exact ⟨rfl, by simp [hc, hle]⟩
          · rename_i hc
            obtain ⟨z, h3, h4⟩ := map_some ha
            cases h4
            exact ⟨rfl, by simp [hc, h3]⟩
        · simp at ha
      · simp at ha
    · simp at ha
  case idxStr x ix =>
    split at ha
    · split at ha
      · rename_i hb
        rw [if_pos hb]
        split at ha
        · obtain ⟨z, h3, h4⟩ := map_some ha
          cases h4
          exact ⟨rfl, by simp [h3]⟩
        · simp at ha
      · simp at ha
    · simp at ha
  case slcStr x lo hi =>
    split at ha
    · obtain ⟨l, h1, h2⟩ := bind_some ha
      obtain ⟨r, h3, h4⟩ := bind_some h2
      split at h4 <;> simp at h4
      rename_i hb
      obtain ⟨rfl, rfl⟩ := h4
      exact ⟨rfl, by rw [h1]; simp [h3, hb]⟩
    · simp at ha
  case slcS esz x lo hi =>
    have hp := foot_mem (y := x) (by simp [AI.cls]) (by simp [AI.opds]) hk
    split at ha
    · split at ha
      · rename_i hall
        obtain ⟨l, h1, h2⟩ := bind_some ha
        obtain ⟨r, h3, h4⟩ := bind_some h2
        split at h4 <;> simp at h4
        rename_i hb
        obtain ⟨rfl, rfl⟩ := h4
        exact ⟨rfl, by rw [if_pos hall, h1]; simp [h3, hb]⟩
      · simp at ha
    · rename_i k v1 hxe
      rw [hxe] at hp
      rw [rowAt_loc (hp k (by simp [refs, refs1]))]
      obtain ⟨row, h0, ha2⟩ := bind_some ha
      split at ha2
      · rename_i hs
        obtain ⟨l, h1, h2⟩ := bind_some ha2
        obtain ⟨r, h3, h4⟩ := bind_some h2
        split at h4 <;> simp at h4
        rename_i hb
        obtain ⟨rfl, rfl⟩ := h4
        exact ⟨rfl, by rw [h0]; simp [hs, h1, h3, hb]⟩
      · simp at ha2
    · rename_i k v1 off len hxe
      rw [hxe] at hp
      rw [rowAt_loc (hp k (by simp [refs, refs1]))]
      obtain ⟨row, h0, ha2⟩ := bind_some ha
      split at ha2
      · rename_i hs
        obtain ⟨l, h1, h2⟩ := bind_some ha2
        obtain ⟨r, h3, h4⟩ := bind_some h2
        split at h4 <;> simp at h4
        rename_i hb
        obtain ⟨rfl, rfl⟩ := h4
        exact ⟨rfl, by rw [h0]; simp [hs, h1, h3, hb]⟩
      · simp at ha2
    · simp at ha
  case bin op x y =>
    split at ha
    · obtain ⟨z, h3, h4⟩ := map_some ha
      cases h4
      exact ⟨rfl, by simp [h3]⟩
    · simp at ha
  case binB op x y => split at ha <;> simp at ha <;> obtain ⟨rfl, rfl⟩ := ha <;> exact ⟨rfl, rfl⟩
  case aeq t neg x y =>
    split at ha
    · obtain ⟨z, h3, h4⟩ := map_some ha
      cases h4
      exact ⟨rfl, by simp [h3]⟩
    · simp at ha
  case una op x =>
    split at ha
    · cases ha; exact ⟨rfl, rfl⟩
    · cases ha; exact ⟨rfl, rfl⟩
    · simp at ha
  case cvtI k x => split at ha <;> simp at ha; obtain ⟨rfl, rfl⟩ := ha; exact ⟨rfl, rfl⟩
  case cvtBS x =>
    have hp := foot_mem (y := x) (by simp [AI.cls]) (by simp [AI.opds]) hk
    rw [elemsOf_loc hp]
    obtain ⟨es, h1, h2⟩ := bind_some ha
    obtain ⟨z, h3, h4⟩ := map_some h2
    cases h4
    exact ⟨rfl, by rw [h1]; simp [h3]⟩
  case build zero parts =>
    obtain ⟨z, h3, h4⟩ := map_some ha
    cases h4
    exact ⟨rfl, by simp [h3]⟩
  case mfn f caps => cases ha; exact ⟨rfl, rfl⟩
  case ext x n =>
    split at ha
    · obtain ⟨z, h3, h4⟩ := map_some ha
      cases h4
      exact ⟨rfl, by simp [h3]⟩
    · simp at ha
  case nilck x => split at ha <;> simp at ha <;> obtain ⟨rfl, rfl⟩ := ha <;> exact ⟨rfl, rfl⟩
  case len x =>
    have hp := foot_mem (y := x) (by simp [AI.cls]) (by simp [AI.opds]) hk
    rw [elemsOf_loc hp]
    obtain ⟨z, h3, h4⟩ := map_some ha
    cases h4
    exact ⟨rfl, by simp [h3]⟩
  case lenStr x => split at ha <;> simp at ha; obtain ⟨rfl, rfl⟩ := ha; exact ⟨rfl, rfl⟩
  case lenA n => cases ha; exact ⟨rfl, rfl⟩
  case mnx mx xs =>
    split at ha
    · obtain ⟨z, h3, h4⟩ := map_some ha
      cases h4
      exact ⟨rfl, by simp [h3]⟩
    · simp at ha
end
end Go.Om
