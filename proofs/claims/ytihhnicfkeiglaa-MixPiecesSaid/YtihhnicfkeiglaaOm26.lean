/-
  Om: the end of a call.
-/
import Derived.Test.YtihhnicfkeiglaaOm25
set_option linter.all false
namespace Go.Om
open Go Go.RowKit

section
variable {P : Program} {X : Nat → Prop} {w w' w'' : World} {C C' C'' : Conc} {h h' ĥ : Hp} {v : AV} {e ê e' : AEnv} {i : AI} {xr : Xr} {hd : Hdl} {mset eqs : List Nat} {n nk : Nat} {a : Act} {u : Value} {own : Bool}

theorem bxOk_get : ∀ {L : List Obj} {n : Nat}, bxOk n L = true → ∀ (i : Nat) (o : Obj), L[i]? = some o → ∃ e cs, o = .box e (n + i) cs ∧ cs.all isIv = true
  | [], n, _, i, o, ho => by simp at ho
  | o0 :: r, n, hb, i, o, ho => by
    cases o0 with
    | row => simp [bxOk] at hb
    | gone => simp [bxOk] at hb
    | box e v cs =>
      simp only [bxOk, Bool.and_eq_true, beq_iff_eq] at hb
      obtain ⟨⟨h1, h2⟩, h3⟩ := hb
      cases i with
      | zero => simp at ho; subst ho; exact ⟨e, cs, by rw [h1]; rfl, h2⟩
      | succ i =>
        obtain ⟨e', cs', h4, h5⟩ := bxOk_get h3 i o (by simpa using ho)
        exact ⟨e', cs', by rw [h4]; congr 1; omega, h5⟩

/-- The rows told so far. -/
structure Outs (h : Hp) (own : Bool) (o0 o1 : List Nat) : Prop where
  pre : ∃ t, o1 = o0 ++ t
  nodup : o0.Nodup → o1.Nodup
  row : ∀ k ∈ o1, k ∈ o0 ∨ ∃ e sz v es, h.objs[k]? = some (.row e sz v es)
  none : own = false → o1 = o0
theorem Outs.refl (h : Hp) (own : Bool) (o : List Nat) : Outs h own o o := ⟨⟨[], by simp⟩, id, fun _ h => .inl h, fun _ => rfl⟩
theorem Outs.trans {o0 o1 o2 : List Nat} (a : Outs h own o0 o1) (b : Outs h own o1 o2) : Outs h own o0 o2 where
  pre := by
    obtain ⟨t, h1⟩ := a.pre
    obtain ⟨t', h2⟩ := b.pre
    exact ⟨t ++ t', by rw [h2, h1, List.append_assoc]⟩
  nodup := fun hn => b.nodup (a.nodup hn)
  row := fun k hk => (b.row k hk).elim (a.row k) .inr
  none := fun ho => (b.none ho).trans (a.none ho)
theorem finC_outs {x x' : AV} {o0 o1 : List Nat} (hf : finC own nk h x o0 = some (x', o1)) : Outs h own o0 o1 := by
  unfold finC at hf
  split at hf
  · cases hf; exact .refl _ _ _
  · cases hf; exact .refl _ _ _
  · split at hf
    · rename_i e sz v es hk
      split at hf
      · split at hf
        · rename_i ho
          split at hf
          · simp at hf
          · rename_i hc
            cases hf
            refine ⟨⟨_, rfl⟩, fun hn => ?_, fun q hq => ?_, fun hh => by rw [ho] at hh; cases hh⟩
            · rw [List.nodup_append]
              refine ⟨hn, by simp, fun a ha b hb => ?_⟩
              simp at hb
              subst hb
              exact fun hh => hc (by simpa [hh] using ha)
            · rcases List.mem_append.1 hq with hq | hq
              · exact .inl hq
              · simp at hq; subst hq; exact .inr ⟨_, _, _, _, hk⟩
        · cases hf; exact .refl _ _ _
      · simp at hf
    · simp at hf
  · split at hf
    · simp at hf
    · obtain ⟨es, _, h2⟩ := map_some hf
      cases h2
      exact .refl _ _ _
  · simp at hf
theorem finCs_outs : ∀ {xs xs' : List AV} {o0 o1 : List Nat}, finCs own nk h xs o0 = some (xs', o1) → Outs h own o0 o1
  | [], xs', o0, o1, hf => by simp [finCs] at hf; obtain ⟨_, rfl⟩ := hf; exact .refl _ _ _
  | x :: r, xs', o0, o1, hf => by
    simp only [finCs] at hf
    obtain ⟨⟨x1, o2⟩, h1, h2⟩ := bind_some hf
    obtain ⟨⟨r1, o3⟩, h3, h4⟩ := map_some h2
    cases h4
    exact (finC_outs h1).trans (finCs_outs h3)
theorem finT_outs {x x' : AV} {o0 o1 : List Nat} (hf : finT own nk h x o0 = some (x', o1)) : Outs h own o0 o1 := by
  unfold finT at hf
  split at hf
  · obtain ⟨⟨r1, o3⟩, h3, h4⟩ := map_some hf
    cases h4
    exact finCs_outs h3
  · exact finC_outs hf
theorem finTs_outs : ∀ {xs xs' : List AV} {o0 o1 : List Nat}, finTs own nk h xs o0 = some (xs', o1) → Outs h own o0 o1
  | [], xs', o0, o1, hf => by simp [finTs] at hf; obtain ⟨_, rfl⟩ := hf; exact .refl _ _ _
  | x :: r, xs', o0, o1, hf => by
    simp only [finTs] at hf
    obtain ⟨⟨x1, o2⟩, h1, h2⟩ := bind_some hf
    obtain ⟨⟨r1, o3⟩, h3, h4⟩ := map_some h2
    cases h4
    exact (finT_outs h1).trans (finTs_outs h3)
theorem fin_outs {x x' : AV} {o1 : List Nat} (hf : fin own nk h x = some (x', o1)) : Outs h own [] o1 := by
  unfold fin at hf
  split at hf
  · obtain ⟨⟨r1, o3⟩, h3, h4⟩ := map_some hf
    cases h4
    exact finTs_outs h3
  · exact finT_outs hf

/-- A translation of results, from what holds of their parts. -/
theorem finCs_rel {S S' : Nat → Prop} {nv nv' : Nat} {out : List Nat} (hC : ∀ y y' u o0 o1, ARel w S C nv y u → finC own nk h y o0 = some (y', o1) → (∃ t, out = o1 ++ t) → ARel w' S' C' nv' y' u) :
    ∀ {xs xs' : List AV} {us : List Value} {o0 o1 : List Nat}, ARels w S C nv xs us → finCs own nk h xs o0 = some (xs', o1) → (∃ t, out = o1 ++ t) → ARels w' S' C' nv' xs' us
  | [], xs', us, o0, o1, hr, hf, _ => by
    simp [finCs] at hf
    obtain ⟨rfl, _⟩ := hf
    have : us = [] := List.eq_nil_of_length_eq_zero (by rw [← hr.1]; rfl)
    subst this
    exact .nil
  | x :: r, xs', us, o0, o1, hr, hf, hp => by
    simp only [finCs] at hf
    obtain ⟨⟨x1, o2⟩, h1, h2⟩ := bind_some hf
    obtain ⟨⟨r1, o3⟩, h3, h4⟩ := map_some h2
    cases h4
    obtain ⟨u, ur, rfl, h5, h6⟩ := hr.uncons
    obtain ⟨t2, e2⟩ := (finCs_outs h3).pre
    obtain ⟨t, e⟩ := hp
    exact .cons (hC _ _ _ _ _ h5 h1 ⟨t2 ++ t, by rw [e, e2, List.append_assoc]⟩) (finCs_rel hC h6 h3 ⟨t, e⟩)
theorem finT_rel {S S' : Nat → Prop} {nv nv' : Nat} {out : List Nat} (hC : ∀ y y' u o0 o1, ARel w S C nv y u → finC own nk h y o0 = some (y', o1) → (∃ t, out = o1 ++ t) → ARel w' S' C' nv' y' u)
    {x x' : AV} {u : Value} {o0 o1 : List Nat} (hr : ARel w S C nv x u) (hf : finT own nk h x o0 = some (x', o1)) (hp : ∃ t, out = o1 ++ t) : ARel w' S' C' nv' x' u := by
  unfold finT at hf
  split at hf
  · obtain ⟨⟨r1, o3⟩, h3, h4⟩ := map_some hf
    cases h4
    obtain ⟨us, rfl, hs⟩ := hr.inv_agg
    have := finCs_rel hC hs h3 hp
    exact .agg _ _ this.1 this.2
  · exact hC _ _ _ _ _ hr hf hp
theorem finTs_rel {S S' : Nat → Prop} {nv nv' : Nat} {out : List Nat} (hC : ∀ y y' u o0 o1, ARel w S C nv y u → finC own nk h y o0 = some (y', o1) → (∃ t, out = o1 ++ t) → ARel w' S' C' nv' y' u) :
    ∀ {xs xs' : List AV} {us : List Value} {o0 o1 : List Nat}, ARels w S C nv xs us → finTs own nk h xs o0 = some (xs', o1) → (∃ t, out = o1 ++ t) → ARels w' S' C' nv' xs' us
  | [], xs', us, o0, o1, hr, hf, _ => by
    simp [finTs] at hf
    obtain ⟨rfl, _⟩ := hf
    have : us = [] := List.eq_nil_of_length_eq_zero (by rw [← hr.1]; rfl)
    subst this
    exact .nil
  | x :: r, xs', us, o0, o1, hr, hf, hp => by
    simp only [finTs] at hf
    obtain ⟨⟨x1, o2⟩, h1, h2⟩ := bind_some hf
    obtain ⟨⟨r1, o3⟩, h3, h4⟩ := map_some h2
    cases h4
    obtain ⟨u, ur, rfl, h5, h6⟩ := hr.uncons
    obtain ⟨t2, e2⟩ := (finTs_outs h3).pre
    obtain ⟨t, e⟩ := hp
    exact .cons (finT_rel hC h5 h1 ⟨t2 ++ t, by rw [e, e2, List.append_assoc]⟩) (finTs_rel hC h6 h3 ⟨t, e⟩)
theorem fin_rel {S S' : Nat → Prop} {nv nv' : Nat} {out : List Nat} (hC : ∀ y y' u o0 o1, ARel w S C nv y u → finC own nk h y o0 = some (y', o1) → (∃ t, out = o1 ++ t) → ARel w' S' C' nv' y' u)
    {x x' : AV} {u : Value} (hr : ARel w S C nv x u) (hf : fin own nk h x = some (x', out)) : ARel w' S' C' nv' x' u := by
  unfold fin at hf
  split at hf
  · obtain ⟨⟨r1, o3⟩, h3, h4⟩ := map_some hf
    cases h4
    obtain ⟨us, rfl, hs⟩ := hr.inv_tup
    have := finTs_rel hC hs h3 ⟨[], by simp⟩
    exact .tup _ _ this.1 this.2
  · exact finT_rel hC hr hf ⟨[], by simp⟩

theorem rowsOut_get : ∀ {out : List Nat} {n : Nat}, (rowsOut h n out).length = out.length ∧ ∀ (i : Nat) (o : Obj), (rowsOut h n out)[i]? = some o → ∃ k, out[i]? = some k ∧ o = (match h.objs[k]? with | some (.row e sz _ es) => .row e sz (n + i) es | _ => .gone)
  | [], n => ⟨rfl, fun i o ho => by simp [rowsOut] at ho⟩
  | k :: r, n => by
    obtain ⟨h1, h2⟩ := rowsOut_get (out := r) (n := n + 1)
    refine ⟨by simp [rowsOut, h1], fun i o ho => ?_⟩
    cases i with
    | zero => simp [rowsOut] at ho; exact ⟨k, rfl, ho.symm⟩
    | succ i =>
      obtain ⟨q, h3, h4⟩ := h2 i o (by simpa [rowsOut] using ho)
      exact ⟨q, by simpa using h3, by rw [h4, show n + 1 + i = n + (i + 1) by omega]⟩

def outC (C C' : Conc) (nk : Nat) (out : List Nat) : Conc := fun k => if k < nk then C' k else match out[k - nk]? with
  | some q => (match C' q with
    | some (.live _ val sz) => some (.live k val sz)
    | x => x)
  | none => C k

theorem finish_sound {v2 : AV} {h2 : Hp} {w0 : World} {C0 : Conc} (T0 : Tot X w0 C0 h) (hG : Given h) (T : Tot X w C h') (hpost : Post X w0 C0 h.nv w C h'.nv) (hr : ARel w (Shut X C) C h'.nv v u) (hf : finish own h.objs.length v h' = some (v2, h2)) :
    ∃ C2, Tot X w C2 h2 ∧ ARel w (Shut X C2) C2 h2.nv v2 u ∧ Post X w0 C0 h.nv w C2 h2.nv ∧ Gave h.objs.length h2 := by
  unfold finish at hf
  obtain ⟨⟨y, out⟩, h3, h4⟩ := bind_some hf
  simp only at h4
  split at h4
  · rename_i hc
    obtain ⟨hle, hbx⟩ := hc
    cases h4
    obtain ⟨nk, hnk⟩ : ∃ nk, h.objs.length = nk := ⟨_, rfl⟩
    rw [hnk] at h3 hle hbx ⊢
    have hnv : h.nv = nk := hG.2.trans hnk
    have O := fin_outs h3
    have hbox : ∀ k, k < nk → ∃ e cs, h'.objs[k]? = some (.box e k cs) ∧ cs.all isIv = true := by
      intro k hk
      have ho := List.getElem?_eq_getElem (show k < h'.objs.length by omega)
      obtain ⟨e, cs, h5, h6⟩ := bxOk_get hbx k _ (by rw [List.getElem?_take]; simp only [hk, if_true]; exact ho)
      exact ⟨e, cs, by rw [ho, h5, Nat.zero_add], h6⟩
    have hrow : ∀ k ∈ out, nk ≤ k ∧ ∃ e sz v es, h'.objs[k]? = some (.row e sz v es) := by
      intro k hk
      obtain ⟨e, sz, v, es, h5⟩ := (O.row k hk).resolve_left (by simp)
      refine ⟨?_, e, sz, v, es, h5⟩
      by_cases hkn : k < nk
      · obtain ⟨e', cs, h6, _⟩ := hbox k hkn
        rw [h6] at h5
        cases h5
      · omega
    have hnd : out.Nodup := O.nodup List.nodup_nil
    obtain ⟨rl, rg⟩ := rowsOut_get (h := h') (out := out) (n := nk)
    obtain ⟨C2, hC2⟩ : ∃ C2, C2 = outC C0 C nk out := ⟨_, rfl⟩
    have c2lo : ∀ k, k < nk → C2 k = C k := fun k hk => by rw [hC2]; simp [outC, hk]
    have c2mid : ∀ i q, out[i]? = some q → ∃ e sz ver es val us, h'.objs[q]? = some (.row e sz ver es) ∧ C q = some (.live ver val sz) ∧ C2 (nk + i) = some (.live (nk + i) val sz) ∧ 0 < sz ∧ Held w e sz val es.length us ∧ RowRel w (Shut X C) sz es us := by
      intro i q hq
      obtain ⟨_, e, sz, ver, es, h5⟩ := hrow q (List.mem_of_getElem? hq)
      obtain ⟨_, hz, val, us, h6, h7, h8⟩ := T.ok q _ h5
      refine ⟨e, sz, ver, es, val, us, h5, h6, ?_, hz, h7, h8⟩
      rw [hC2]
      simp only [outC]
      rw [if_neg (by omega), show nk + i - nk = i by omega, hq]
      simp only [h6]
    have c2hi : ∀ k, nk + out.length ≤ k → C2 k = C0 k := fun k hk => by
      rw [hC2]
      simp only [outC]
      rw [if_neg (by omega), List.getElem?_eq_none (by omega)]
    have c0hi : ∀ k, nk ≤ k → C0 k = none ∨ C0 k = some .dead := fun k hk => T0.out k (by omega)
    -- whose it was
    have hsrc : ∀ k b, OwnsB C2 k b → (k < nk ∧ OwnsB C k b) ∨ ∃ i q, k = nk + i ∧ out[i]? = some q ∧ OwnsB C q b := by
      rintro k b ⟨ver, val, sz, hc, hb⟩
      by_cases h5 : k < nk
      · rw [c2lo k h5] at hc
        exact .inl ⟨h5, _, _, _, hc, hb⟩
      · by_cases h6 : nk + out.length ≤ k
        · rw [c2hi k h6] at hc
          rcases c0hi k (by omega) with h7 | h7 <;> rw [h7] at hc <;> cases hc
        · have hq := List.getElem?_eq_getElem (show k - nk < out.length by omega)
          obtain ⟨e, sz', ver', es, val', us, h7, h8, h9, _⟩ := c2mid _ _ hq
          rw [show nk + (k - nk) = k by omega] at h9
          rw [h9] at hc
          cases hc
          exact .inr ⟨k - nk, _, by omega, hq, _, _, _, h8, hb⟩
    have hlive : ∀ b, LiveB C2 b → LiveB C b := by
      rintro b ⟨k, hk⟩
      rcases hsrc k b hk with ⟨_, h5⟩ | ⟨_, q, _, _, h5⟩
      · exact ⟨k, h5⟩
      · exact ⟨q, h5⟩
    have hshut : ∀ b, Shut X C2 b → Shut X C b := fun b hb => hb.imp id (hlive b)
    have htree : ∀ (x : AV) (es : List (List IV)) (u : Value), own = false → ARel w (Shut X C) C h'.nv x u → elemsOf h' x = some es → refs x = refs1 x → (∀ k ∈ refs1 x, ∃ e sz v es, h'.objs[k]? = some (.row e sz v es)) →
        (∀ (b off n c : Nat), u = .slice (some ⟨b, off, none⟩) n c → es.length ≠ 0 → ∃ k, k ∈ refs1 x ∧ OwnsB C k b) → IRel w (Shut X C2) (.sl es) u := by
      intro x es u ho hx he href hrw hblk
      have hv := elemsOf_rel he (fun k o _ ho => T.ok k o ho) hx
      refine hv.irel hshut fun b off n c hu h0 hs => ?_
      obtain ⟨k, hk, hob⟩ := hblk b off n c hu h0
      rcases hs with hs | ⟨k', hk'⟩
      · exact T.xdist b hs ⟨k, hob⟩
      · rcases hsrc k' b hk' with ⟨h5, h6⟩ | ⟨_, q, _, h6, _⟩
        · have := T.dist _ _ b h6 hob
          subst this
          obtain ⟨e, sz, v, es, h7⟩ := hrw k' hk
          obtain ⟨e', cs, h8, _⟩ := hbox k' h5
          rw [h8] at h7
          cases h7
        · rw [O.none ho] at h6
          simp at h6
    have hfin : ∀ x x' u o0 o1, ARel w (Shut X C) C h'.nv x u → finC own nk h' x o0 = some (x', o1) → (∃ t, out = o1 ++ t) → ARel w (Shut X C2) C2 (nk + out.length) x' u := by
      intro x x' u o0 o1 hx hf hp
      unfold finC at hf
      split at hf
      · cases hf
        exact .iv (hx.inv_iv.anti hshut)
      · cases hf
        cases hx
        exact .iv (.nil _ _)
      · rename_i k ver
        split at hf
        · rename_i e sz v es hk
          split at hf
          · rename_i hv
            subst hv
            obtain ⟨_, hz, val, us, h6, h7, h8⟩ := T.ok k _ hk
            obtain ⟨_, hone, co, hco, h9⟩ := hx.inv_osl
            rw [h6] at hco
            cases hco
            have hval := h9 _ _ rfl
            split at hf
            · split at hf
              · simp at hf
              · cases hf
                obtain ⟨t, ht⟩ := hp
                have hq : out[o0.length]? = some k := by rw [ht]; simp
                obtain ⟨e', sz', ver', es', val', us', a1, a2, a3, _⟩ := c2mid _ _ hq
                rw [h6] at a2
                cases a2
                have hlt := (List.getElem?_eq_some_iff.1 hq).1
                exact .osl _ _ _ _ (by omega) a3 hone fun v' sz'' hh => by cases hh; exact hval
            · rename_i ho
              cases hf
              have he : elemsOf h' (.osl k v) = some es := by simp [elemsOf, rowAt, hk]
              refine .iv (htree (.osl k v) es u (by simpa using ho) hx he rfl (fun q hq => ?_) fun b off n c hu _ => ⟨k, by simp [refs1], ?_⟩)
              · simp [refs1] at hq
                subst hq
                exact ⟨_, _, _, _, hk⟩
              · rw [hu] at hval
                exact ⟨_, _, _, h6, by rw [← hval]; rfl⟩
          · simp at hf
        · simp at hf
      · rename_i k ver off len
        split at hf
        · simp at hf
        · rename_i ho
          obtain ⟨es, he, h2⟩ := map_some hf
          cases h2
          have hrw : ∃ e sz es', rowAt h' k ver = some (e, sz, es') ∧ off + len ≤ es'.length ∧ es = (es'.drop off).take len := by
            simp only [elemsOf] at he
            obtain ⟨⟨e, sz, es'⟩, h5, h6⟩ := bind_some he
            split at h6
            · rename_i hle; cases h6; exact ⟨e, sz, es', h5, hle, rfl⟩
            · simp at h6
          obtain ⟨e, sz, es', h5, hle, hes⟩ := hrw
          obtain ⟨hk, _, _, val, us, h6, h7, _⟩ := rowAt_rel h5 (fun o ho => T.ok k o ho)
          refine .iv (htree (.osub k ver off len) es u (by simpa using ho) hx he rfl (fun q hq => ?_) fun b off' n c hu h0 => ⟨k, by simp [refs1], ?_⟩)
          · simp [refs1] at hq
            subst hq
            exact ⟨_, _, _, _, hk⟩
          · obtain ⟨_, _, co, hco, h9⟩ := hx.inv_osub
            rw [h6] at hco
            cases hco
            obtain ⟨a', c', hu2, _, h10⟩ := h9 _ _ rfl
            rcases h10 with h10 | ⟨g, n', cap, rfl, rfl⟩
            · rw [hes] at h0
              simp at h0
              omega
            · rw [hu] at hu2
              cases hu2
              exact ⟨_, _, _, h6, rfl⟩
      · simp at hf
    refine ⟨C2, ⟨fun k o ho => ?_, fun k k' b h5 h6 => ?_, fun b hb => T.lt b (hlive b hb), fun k hk => ?_, T.xlt, fun b hb hl => T.xdist b hb (hlive b hl)⟩, fin_rel hfin hr h3, ?_, ?_⟩
    · simp only at ho
      by_cases hk : k < nk
      · rw [List.getElem?_append_left (by simp; omega), List.getElem?_take] at ho
        simp only [hk, if_true] at ho
        obtain ⟨e, cs, h5, h6⟩ := hbox k hk
        rw [h5] at ho
        cases ho
        obtain ⟨_, g, us, h7, h8, h9⟩ := T.ok k _ h5
        exact ⟨by simp only; omega, g, us, by rw [c2lo k hk]; exact h7, h8, isIv_rel hshut h6 h9⟩
      · rw [List.getElem?_append_right (by simp; omega)] at ho
        have hlen : (h'.objs.take nk).length = nk := by simp; omega
        rw [hlen] at ho
        obtain ⟨q, h5, rfl⟩ := rg _ _ ho
        obtain ⟨e, sz, ver, es, val, us, h6, h7, h8, h9, h10, h11⟩ := c2mid _ _ h5
        have hlt := (List.getElem?_eq_some_iff.1 h5).1
        rw [h6]
        simp only
        rw [show nk + (k - nk) = k by omega] at h8 ⊢
        exact ⟨by omega, h9, val, us, h8, h10, ⟨h11.1, fun i d j x u b1 b2 b3 => (h11.2 i d j x u b1 b2 b3).anti hshut⟩⟩
    · rcases hsrc k b h5 with ⟨a1, a2⟩ | ⟨i1, q1, a1, a2, a3⟩ <;> rcases hsrc k' b h6 with ⟨b1, b2⟩ | ⟨i2, q2, b1, b2, b3⟩
      · exact T.dist _ _ b a2 b2
      · have := T.dist _ _ b a2 b3
        have := (hrow q2 (List.mem_of_getElem? b2)).1
        omega
      · have := T.dist _ _ b a3 b2
        have := (hrow q1 (List.mem_of_getElem? a2)).1
        omega
      · have := T.dist _ _ b a3 b3
        subst this
        obtain ⟨c1, c2⟩ := List.getElem?_eq_some_iff.1 a2
        obtain ⟨c3, c4⟩ := List.getElem?_eq_some_iff.1 b2
        have := (List.getElem_inj hnd).1 (c2.trans c4.symm)
        omega
    · simp only [List.length_append, List.length_take, rl] at hk
      rw [c2hi k (by omega)]
      exact c0hi k (by omega)
    · exact {
        os := hpost.os
        tape := hpost.tape
        output := hpost.output
        size := hpost.size
        blk := hpost.blk
        liveB := fun b hb => hpost.liveB b (hlive b hb)
        keep := fun k co hc => by
          by_cases hk : k < nk
          · rw [c2lo k hk]; exact hpost.keep k co hc
          · by_cases hk2 : nk + out.length ≤ k
            · exact ⟨co, by rw [c2hi k hk2]; exact hc, .inl rfl⟩
            · have hq := List.getElem?_eq_getElem (show k - nk < out.length by omega)
              obtain ⟨e, sz', ver', es, val', us, h7, h8, h9, _⟩ := c2mid _ _ hq
              rw [show nk + (k - nk) = k by omega] at h9
              exact ⟨_, h9, .inr fun ver v sz hh => by cases hh; omega⟩
        nv := by simp only; omega }
    · refine ⟨fun k o hk ho => ?_, ?_, ?_⟩
      · simp only at ho
        rw [List.getElem?_append_right (by simp; omega)] at ho
        have hlen : (h'.objs.take nk).length = nk := by simp; omega
        rw [hlen] at ho
        obtain ⟨q, h5, rfl⟩ := rg _ _ ho
        obtain ⟨e, sz, ver, es, val, us, h6, _⟩ := c2mid _ _ h5
        rw [h6]
        exact ⟨e, sz, es, by simp only; congr 1; omega⟩
      · simp [rl]; omega
      · simp; omega
  · simp at h4
end
end Go.Om
