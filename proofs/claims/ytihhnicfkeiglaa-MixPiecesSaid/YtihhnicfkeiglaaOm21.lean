/-
  Om: a region whose order is open.
-/
import Derived.Test.YtihhnicfkeiglaaOm20
set_option linter.all false
namespace Go.Om
open Go Go.RowKit

section
variable {P : Program} {X : Nat → Prop} {w w' w'' : World} {C C' C'' : Conc} {h h' ĥ : Hp} {v : AV} {e ê e' : AEnv} {i : AI} {xr : Xr} {hd : Hdl} {mset eqs : List Nat} {n : Nat} {a : Act}

theorem old_append {o : Obj} {nv : Nat} (k : Nat) (hk : k < h.objs.length) : (⟨h.objs ++ [o], nv⟩ : Hp).objs[k]? = h.objs[k]? := List.getElem?_append_left hk
theorem old_set {o : Obj} {k0 : Nat} (k : Nat) (hk : k ≠ k0) : (h.objs.set k0 o)[k]? = h.objs[k]? := List.getElem?_set_ne (fun hh => hk hh.symm)

theorem via_old {g : Nat} {all : List AV} (hv : viaHd hd g all h = some (v, h')) : ∃ as' ks l, argTs h all [] = some (as', ks, l) ∧ h.objs.length ≤ h'.objs.length ∧ ∀ k, k < h.objs.length → k ∉ ks → h'.objs[k]? = h.objs[k]? := by
  unfold viaHd at hv
  obtain ⟨⟨as', ks, lent⟩, ha, hv1⟩ := bind_some hv
  obtain ⟨objs0, hg, hv2⟩ := bind_some hv1
  obtain ⟨⟨r, h1⟩, hr, hv3⟩ := bind_some hv2
  simp only at hg hr hv3
  split at hv3
  · simp at hv3
  obtain ⟨L, hL, hz⟩ := map_some hv3
  cases hz
  obtain ⟨hnd, _⟩ := argTs_nodup ha List.nodup_nil
  obtain ⟨t1, t2, _⟩ := takeBack_get hL hnd
  exact ⟨as', ks, lent, ha, by simp [t1], fun k hk hks => by simp only; rw [List.getElem?_append_left (by omega), t2 k hks]⟩

theorem appTo_old {t esz : Nat} {s : AV} {news : List (List IV)} (ha : appTo t esz s news h = some (v, h')) : h.objs.length ≤ h'.objs.length ∧ ∀ k, k < h.objs.length → k ∉ refs s → h'.objs[k]? = h.objs[k]? := by
  unfold appTo at ha
  split at ha
  · split at ha <;> simp at ha
    obtain ⟨rfl, rfl⟩ := ha
    exact ⟨by simp, fun k hk _ => old_append k hk⟩
  · obtain ⟨r, h1, h2⟩ := bind_some ha
    split at h2
    · split at h2 <;> simp at h2
      obtain ⟨rfl, rfl⟩ := h2
      exact ⟨by simp, fun k hk hks => old_set k (fun hh => hks (by simp [refs, refs1, hh]))⟩
    · simp at h2
  · simp at ha

theorem modOf_m (hc : i.cls = .m) : modOf i e = i.opds.flatMap fun x => refs (x.ev e) := by simp [modOf, foot, hc]
theorem astep_old (hX : XrOk P xr) (ha : astep xr hd i e h = some (v, h')) : h.objs.length ≤ h'.objs.length ∧ ∀ k, k < h.objs.length → k ∉ modOf i e → h'.objs[k]? = h.objs[k]? := by
  by_cases hh : i.heap = true
  · cases i <;> simp [AI.heap] at hh <;> simp only [astep] at ha
    case box t x =>
      split at ha <;> simp at ha
      obtain ⟨rfl, rfl⟩ := ha
      exact ⟨by simp, fun k hk _ => old_append k hk⟩
    case cvtSB t x =>
      split at ha
      · split at ha <;> simp at ha
        obtain ⟨rfl, rfl⟩ := ha
        exact ⟨by simp, fun k hk _ => old_append k hk⟩
      · simp at ha
    case zbox t cs =>
      cases ha
      exact ⟨by simp, fun k hk _ => old_append k hk⟩
    case st n p x =>
      rw [modOf_m rfl]
      split at ha
      · rename_i k ver i1 j1 hpe
        obtain ⟨cs, h1, h2⟩ := bind_some ha
        have key : ∀ o : Obj, h.objs.length ≤ (h.objs.set k o).length ∧ ∀ q, q < h.objs.length → q ∉ (AI.st n p x).opds.flatMap (fun x => refs (x.ev e)) → (h.objs.set k o)[q]? = h.objs[q]? :=
          fun o => ⟨by simp, fun q hq hm => old_set q (fun hh => hm (by simp [AI.opds, hpe, refs, refs1, hh]))⟩
        split at h2
        · split at h2
          · split at h2
            · split at h2
              · split at h2 <;> simp at h2
                obtain ⟨rfl, rfl⟩ := h2
                exact key _
              · simp at h2
            · simp at h2
          · split at h2
            · obtain ⟨y, h3, h4⟩ := bind_some h2
              split at h4
              · split at h4 <;> simp at h4
                obtain ⟨rfl, rfl⟩ := h4
                exact key _
              · simp at h4
            · simp at h2
          · simp at h2
        · simp at h2
      · simp at ha
    case bslice t esz zero len parts =>
      split at ha
      · obtain ⟨y, h1, h2⟩ := bind_some ha
        obtain ⟨es, h3, h4⟩ := map_some h2
        cases h4
        exact ⟨by simp, fun k hk _ => old_append k hk⟩
      · simp at ha
    case mslice t esz zero len =>
      split at ha
      · split at ha <;> simp at ha
        obtain ⟨rfl, rfl⟩ := ha
        exact ⟨by simp, fun k hk _ => old_append k hk⟩
      · simp at ha
    case call m f args =>
      unfold callV at ha
      split at ha
      · rename_i g caps hf
        split at ha
        · rename_i hcap
          have hrefs : ∀ k, k ∈ (args.map (·.ev e) ++ caps).flatMap refs → m = true → k ∈ modOf (.call m f args) e := by
            intro k hk hm
            rw [modOf_m (by simp [AI.cls, hm])]
            simp only [AI.opds, List.flatMap_cons]
            rw [List.flatMap_append] at hk
            rcases List.mem_append.1 hk with hk | hk
            · exact List.mem_append_right _ (by simpa [List.flatMap_map] using hk)
            · refine List.mem_append_left _ ?_
              rw [hf]
              obtain ⟨c, hc1, hc2⟩ := List.mem_flatMap.1 hk
              refine List.mem_flatMap.2 ⟨c, hc1, ?_⟩
              have := List.all_eq_true.1 hcap c hc1
              cases c <;> simp [capOk] at this <;> simpa [refs] using hc2
          have viaR : viaHd hd g (args.map (·.ev e) ++ caps) h = some (v, h') → (m = true ∨ ∃ as' l, argTs h (args.map (·.ev e) ++ caps) [] = some (as', [], l)) → h.objs.length ≤ h'.objs.length ∧ ∀ k, k < h.objs.length → k ∉ modOf (.call m f args) e → h'.objs[k]? = h.objs[k]? := by
            intro hv hm
            obtain ⟨as', ks, l, h1, h2, h3⟩ := via_old hv
            refine ⟨h2, fun k hk hq => h3 k hk fun hks => ?_⟩
            rcases hm with hm | ⟨as2, l2, h4⟩
            · obtain ⟨_, h5⟩ := argTs_nodup h1 List.nodup_nil
              rcases h5 k hks with h5 | h5
              · simp at h5
              · exact hq (hrefs k h5 hm)
            · rw [h1] at h4
              simp only [Option.some.injEq, Prod.mk.injEq] at h4
              obtain ⟨_, rfl, _⟩ := h4
              simp at hks
          split at ha
          · rename_i hm
            split at ha
            · rename_i r hr
              cases ha
              obtain ⟨h1, h2, _⟩ := hX _ _ _ _ _ hr
              exact ⟨h1, fun k hk hq => h2 k hk (fun hh => hq (hrefs k hh hm))⟩
            · exact viaR ha (.inl hm)
          · obtain ⟨⟨as', ks, l⟩, h1, h2⟩ := bind_some ha
            simp only at h2
            split at h2
            · rename_i hks
              subst hks
              exact viaR h2 (.inr ⟨as', l, h1⟩)
            · simp at h2
        · simp at ha
      · simp at ha
    case app t esz s x =>
      rw [modOf_m rfl]
      obtain ⟨news, h1, h2⟩ := bind_some ha
      split at h2
      · obtain ⟨h3, h4⟩ := appTo_old h2
        exact ⟨h3, fun k hk hm => h4 k hk (fun hh => hm (by simp only [AI.opds, List.flatMap_cons]; exact List.mem_append_left _ hh))⟩
      · simp at h2
    case appS t s x =>
      rw [modOf_m rfl]
      split at ha
      · obtain ⟨h3, h4⟩ := appTo_old ha
        exact ⟨h3, fun k hk hm => h4 k hk (fun hh => hm (by simp only [AI.opds, List.flatMap_cons]; exact List.mem_append_left _ hh))⟩
      · simp at ha
    case appz t esz z s x =>
      rw [modOf_m rfl]
      split at ha
      · rename_i q k ver hx hs
        obtain ⟨r, h1, h2⟩ := bind_some ha
        split at h2
        · split at h2 <;> simp at h2
          obtain ⟨rfl, rfl⟩ := h2
          exact ⟨by simp, fun k' hk hm => old_set k' (fun hh => hm (by simp [AI.opds, hs, refs, refs1, hh]))⟩
        · simp at h2
      · simp at ha
  · obtain ⟨rfl, _⟩ := astep_loc (ĥ := h) (by simpa using hh) (fun _ _ => rfl) ha
    exact ⟨Nat.le_refl _, fun _ _ _ => rfl⟩

/-- What is not touched is as it was, be it there or not. -/
theorem touch_old (hX : XrOk P xr) (ha : astep xr hd i e h = some (v, h')) (k : Nat) (hk : k ∉ touch i e h h') : h'.objs[k]? = h.objs[k]? := by
  by_cases hh : i.heap = true
  · unfold touch at hk
    rw [if_pos hh] at hk
    obtain ⟨h1, h2⟩ := astep_old hX ha
    by_cases hlt : k < h.objs.length
    · exact h2 k hlt (fun hm => hk (List.mem_append_left _ hm))
    · have : ¬ k < h'.objs.length := fun hlt2 => hk (List.mem_append_right _ (by rw [List.mem_range']; exact ⟨k - h.objs.length, by omega, by omega⟩))
      rw [List.getElem?_eq_none (by omega), List.getElem?_eq_none (by omega)]
  · obtain ⟨rfl, _⟩ := astep_loc (ĥ := h) (by simpa using hh) (fun _ _ => rfl) ha
    rfl

/-- One operation in another state: it reads the same, and looks at the same objects. -/
theorem arun1_move {x : AOp} (hr : arun xr hd [x] e h = some (e', h')) (hrd : ∀ t ∈ x.rds, ê t = e t) (hheap : x.ins.heap = true → ĥ = h) (hloc : x.ins.heap = false → ∀ v h1, astep xr hd x.ins e h = some (v, h1) → (x.guard = none ∨ ∃ t b, x.guard = some (t, b) ∧ e t = .iv (.bool b)) → ∀ k ∈ foot x.ins e, ĥ.objs[k]? = h.objs[k]?) :
    ∃ v, e' = upd e x.dst v ∧ arun xr hd [x] ê ĥ = some (upd ê x.dst v, if x.ins.heap then h' else ĥ) ∧ (x.ins.heap = false → h' = h) := by
  have hop : ∀ y ∈ x.ins.opds, y.ev ê = y.ev e := by
    intro y hy
    cases y with
    | tmp t => exact hrd t (by simp only [AOp.rds]; exact List.mem_append_right _ (List.mem_flatMap.2 ⟨_, hy, by simp [Opd.rd]⟩))
    | con v => rfl
  have hrun : ∀ v h1, astep xr hd x.ins e h = some (v, h1) → (x.guard = none ∨ ∃ t b, x.guard = some (t, b) ∧ e t = .iv (.bool b)) → astep xr hd x.ins ê ĥ = some (v, if x.ins.heap then h1 else ĥ) ∧ (x.ins.heap = false → h1 = h) := by
    intro v h1 ha hg
    rw [astep_env hop]
    cases hq : x.ins.heap with
    | true => rw [hheap hq]; exact ⟨by simpa using ha, by simp⟩
    | false =>
      obtain ⟨h2, h3⟩ := astep_loc hq (hloc hq v h1 ha hg) ha
      exact ⟨by simpa using h3, fun _ => h2⟩
  have hskip : (if x.ins.heap then h else ĥ) = ĥ := by
    split
    · rename_i hq; exact (hheap hq).symm
    · rfl
  simp only [arun] at hr ⊢
  cases hg : x.guard with
  | none =>
    rw [hg] at hr
    simp only at hr ⊢
    obtain ⟨⟨v, h1⟩, h2, h3⟩ := bind_some hr
    simp only [Option.some.injEq, Prod.mk.injEq] at h3
    obtain ⟨rfl, rfl⟩ := h3
    obtain ⟨h4, h5⟩ := hrun v h1 h2 (.inl hg)
    exact ⟨v, rfl, by rw [h4]; rfl, h5⟩
  | some p =>
    obtain ⟨t, want⟩ := p
    have hgt : ê t = e t := hrd t (by simp [AOp.rds, hg])
    rw [hg] at hr
    simp only at hr ⊢
    rw [hgt]
    split at hr
    · rename_i b hb
      split at hr
      · rename_i hbw
        obtain ⟨⟨v, h1⟩, h2, h3⟩ := bind_some hr
        simp only [Option.some.injEq, Prod.mk.injEq] at h3
        obtain ⟨rfl, rfl⟩ := h3
        obtain ⟨h4, h5⟩ := hrun v h1 h2 (.inr ⟨t, want, hg, by rw [hb, hbw]⟩)
        exact ⟨v, rfl, by simp only [hbw, if_true]; rw [h4]; rfl, h5⟩
      · rename_i hbw
        simp only [Option.some.injEq, Prod.mk.injEq] at hr
        obtain ⟨rfl, rfl⟩ := hr
        exact ⟨_, rfl, by rw [if_neg hbw, hskip], fun _ => rfl⟩
    · rename_i hb
      simp only [Option.some.injEq, Prod.mk.injEq] at hr
      obtain ⟨rfl, rfl⟩ := hr
      exact ⟨_, rfl, by rw [hskip], fun _ => rfl⟩
    · simp at hr
end
end Go.Om
