/-
  Om: what comes back from a call.
-/
import Derived.Test.YtihhnicfkeiglaaOm16
set_option linter.all false
namespace Go.Om
open Go Go.RowKit

section
variable {P : Program} {X : Nat → Prop} {w w' w'' : World} {C C' C'' : Conc} {h h' : Hp} {v : AV} {u : Value} {nv nv' nv'' : Nat} {S : Nat → Prop} {hd : Hdl}

theorem takeBack_get {ks : List Nat} {n : Nat} {R L L' : List Obj} (ht : takeBack ks n R L = some L') (hn : ks.Nodup) : L'.length = L.length ∧ (∀ k, k ∉ ks → L'[k]? = L[k]?) ∧
    ∀ (i k : Nat), ks[i]? = some k → ∃ e v cs cs0, R[i]? = some (.box e (n + i) cs) ∧ cs.all isIv = true ∧ L[k]? = some (.box e v cs0) ∧ L'[k]? = some (.box e v cs) := by
  induction ks generalizing n R L with
  | nil => simp [takeBack] at ht; subst ht; exact ⟨rfl, fun _ _ => rfl, fun i k hh => by simp at hh⟩
  | cons k r ih =>
    cases R with
    | nil => simp [takeBack] at ht
    | cons o R =>
      cases o with
      | row => simp [takeBack] at ht
      | gone => simp [takeBack] at ht
      | box e0 v cs =>
        simp only [takeBack] at ht
        split at ht
        · rename_i e v' cs0 hk
          split at ht
          · rename_i hc
            obtain ⟨rfl, rfl, hall⟩ := hc
            rw [List.nodup_cons] at hn
            obtain ⟨h1, h2, h3⟩ := ih ht hn.2
            have hkl : k < L.length := (List.getElem?_eq_some_iff.1 hk).1
            refine ⟨by simpa using h1, fun q hq => ?_, fun i q hi => ?_⟩
            · rw [h2 q (fun hh => hq (by simp [hh])), List.getElem?_set_ne (fun e => hq (by simp [e]))]
            · cases i with
              | zero =>
                simp only [List.getElem?_cons_zero, Option.some.injEq] at hi
                subst hi
                refine ⟨e0, v', cs, cs0, rfl, hall, hk, ?_⟩
                rw [h2 _ hn.1, List.getElem?_set_self hkl]
              | succ i =>
                have hi' : r[i]? = some q := by simpa using hi
                obtain ⟨e1, v1, cs1, cs2, a1, a2, a3, a4⟩ := h3 i q hi'
                have hqk : k ≠ q := fun e => hn.1 (e ▸ List.mem_of_getElem? hi')
                refine ⟨e1, v1, cs1, cs2, ?_, a2, ?_, a4⟩
                · rw [List.getElem?_cons_succ, a1]
                  congr 2
                  omega
                · rwa [List.getElem?_set_ne hqk] at a3
          · simp at ht
        · simp at ht

theorem isIv_rel {S' : Nat → Prop} {C' : Conc} {nv' : Nat} (hS : ∀ b, S' b → S b) {cs : List AV} {us : List Value} (hall : cs.all isIv = true) (hr : ARels w S C nv cs us) : ARels w S' C' nv' cs us := by
  refine ⟨hr.1, fun j x u h1 h2 => ?_⟩
  have hx := List.all_eq_true.1 hall x (List.mem_of_getElem? h1)
  have hxr := hr.2 j x u h1 h2
  cases x <;> simp [isIv] at hx
  · exact .iv (hxr.inv_iv.anti hS)
  · cases hxr; exact .nils

/-- What is handed over is a whole state for the callee. -/
theorem given_tot {ks : List Nat} {objs : List Obj} {lent : Bool} (hg : given h ks 0 = some objs) (hn : ks.Nodup) (hok : ∀ k o, k ∈ ks → h.objs[k]? = some o → ObjOk w (Shut X C) C h.nv k o) (hd : ∀ k k' b, OwnsB C k b → OwnsB C k' b → k = k') (hlt : ∀ b, LiveB C b → b < w.heap.size) (hxl : ∀ b, X b → b < w.heap.size) :
    Tot (subX X C ks lent) w (subC C ks) ⟨objs, ks.length⟩ ∧ Given ⟨objs, ks.length⟩ := by
  obtain ⟨hl, hs⟩ := given_get hg
  have hin : ∀ (i : Nat) (o : Obj), objs[i]? = some o → ∃ k, ks[i]? = some k := by
    intro i o ho
    have := (List.getElem?_eq_some_iff.1 ho).1
    exact ⟨_, List.getElem?_eq_getElem (by omega)⟩
  refine ⟨⟨fun i o ho => ?_, fun i i' b h1 h2 => ?_, fun b hb => hlt b (subC_live hb), fun i hi => ?_, fun b hb => hb.2.1.elim (hxl b) (hlt b), fun b hb => hb.2.2⟩, fun i o ho => ?_, hl.symm⟩
  · obtain ⟨k, hk⟩ := hin i o ho
    obtain ⟨e, v, cs, a1, a2, a3⟩ := hs i k hk
    simp only at ho
    rw [a3] at ho
    cases ho
    obtain ⟨hv, g, us, hC, hg', hrs⟩ := hok k _ (List.mem_of_getElem? hk) a1
    rw [Nat.zero_add]
    exact ⟨(List.getElem?_eq_some_iff.1 hk).1, g, us, by simp [subC, hk, hC], hg', isIv_rel subX_anti a2 hrs⟩
  · obtain ⟨k, hk, ho⟩ := subC_owns h1
    obtain ⟨k', hk', ho'⟩ := subC_owns h2
    have := hd k k' b ho ho'
    subst this
    have h3 := (List.getElem?_eq_some_iff.1 hk)
    have h4 := (List.getElem?_eq_some_iff.1 hk')
    exact (List.getElem_inj hn).1 (h3.2.trans h4.2.symm)
  · left
    simp only at hi
    have : ks[i]? = none := List.getElem?_eq_none (by omega)
    simp [subC, this]
  · obtain ⟨k, hk⟩ := hin i o ho
    obtain ⟨e, v, cs, a1, a2, a3⟩ := hs i k hk
    simp only at ho
    rw [a3] at ho
    cases ho
    exact ⟨e, cs, by rw [Nat.zero_add]⟩

/-- The caller's objects behind the call. -/
def backC (C C1 : Conc) (lo hi nv nk : Nat) : Conc := fun k => if lo ≤ k ∧ k < hi then (match C1 (nk + (k - lo)) with
  | some (.live v val sz) => some (.live (nv + (v - nk)) val sz)
  | x => x) else C k

theorem scal_rel {S' : Nat → Prop} {C' : Conc} {nv' : Nat} {w' : World} {x : AV} (hs : scal x = true) (hr : ARel w S C nv x u) : ARel w' S' C' nv' x u := by
  cases x <;> simp [scal] at hs
  rename_i x
  cases x <;> simp [scal] at hs
  · rw [hr.inv_iv.inv_int]; exact .iv (.int _ _)
  · rw [hr.inv_iv.inv_bool]; exact .iv (.bool _)
  · rw [hr.inv_iv.inv_str]; exact .iv (.str _)
theorem scal_ren {x : AV} {m nv nk n1 : Nat} (hs : scal x = true) : renC m nv nk n1 x = x := by
  cases x <;> simp [scal] at hs
  rfl

/-- A translation of results, from what holds of their parts. -/
theorem ren_rel {S' : Nat → Prop} {C' : Conc} {nv' m nv0 nk n1 : Nat} {x : AV} (hC : ∀ y u, ARel w S C nv y u → (scalR x = true → scal y = true) → ARel w S' C' nv' (renC m nv0 nk n1 y) u) (hr : ARel w S C nv x u) : ARel w S' C' nv' (ren m nv0 nk n1 x) u := by
  have hT : ∀ y u, ARel w S C nv y u → (scalR x = true → scalT y = true) → ARel w S' C' nv' (renT m nv0 nk n1 y) u := by
    intro y u hy hs
    unfold renT
    split
    · rename_i cs
      obtain ⟨us, rfl, hus⟩ := hy.inv_agg
      refine .agg _ _ (by simp [hus.1]) fun j z q h1 h2 => ?_
      rw [List.getElem?_map] at h1
      obtain ⟨z0, hz0, rfl⟩ := map_some h1
      refine hC z0 q (hus.2 j z0 q hz0 h2) fun hh => ?_
      have := hs hh
      simp only [scalT] at this
      exact List.all_eq_true.1 this z0 (List.mem_of_getElem? hz0)
    · rename_i hne
      refine hC y u hy fun hh => ?_
      have := hs hh
      cases y <;> first | exact this | (exact absurd rfl (hne _))
  unfold ren
  split
  · rename_i vs
    obtain ⟨us, rfl, hus⟩ := hr.inv_tup
    refine .tup _ _ (by simp [hus.1]) fun j z q h1 h2 => ?_
    rw [List.getElem?_map] at h1
    obtain ⟨z0, hz0, rfl⟩ := map_some h1
    refine hT z0 q (hus.2 j z0 q hz0 h2) fun hh => ?_
    simp only [scalR] at hh
    exact List.all_eq_true.1 hh z0 (List.mem_of_getElem? hz0)
  · rename_i hne
    refine hT x u hr fun hh => ?_
    cases x <;> first | exact hh | (exact absurd rfl (hne _))

theorem via_sound {g : Nat} {all : List AV} {us : List Value} (hH : HdOk P hd) (hv : viaHd hd g all h = some (v, h')) (hall : ARels w (Shut X C) C h.nv all us)
    (hok : ∀ k o, k ∈ all.flatMap refs → h.objs[k]? = some o → ObjOk w (Shut X C) C h.nv k o) (hdist : ∀ k k' b, OwnsB C k b → OwnsB C k' b → k = k') (hlt : ∀ b, LiveB C b → b < w.heap.size) (hxl : ∀ b, X b → b < w.heap.size) (hfree : Free C h.objs.length h'.objs.length) :
    ∃ ks, (∀ k ∈ ks, k ∈ all.flatMap refs) ∧ (∀ as' l, argTs h all [] = some (as', ks, l) ∨ True) ∧ (∃ as' l, argTs h all [] = some (as', ks, l)) ∧ Go.Proofs.Enters P g ∧
      Calls P g us.toArray w fun en w' => ∃ u C', en = .returned u ∧ Res X w C h ks v h' u w' C' := by
  unfold viaHd at hv
  obtain ⟨⟨as', ks, lent⟩, ha, hv1⟩ := bind_some hv
  obtain ⟨objs0, hg, hv2⟩ := bind_some hv1
  obtain ⟨⟨r, h1⟩, hr, hv3⟩ := bind_some hv2
  simp only at hg hr hv3
  split at hv3
  · simp at hv3
  rename_i hlent
  obtain ⟨L, hL, hz⟩ := map_some hv3
  cases hz
  clear hv hv1 hv2 hv3
  obtain ⟨hnd, hsub⟩ := argTs_nodup ha List.nodup_nil
  have hsub : ∀ k ∈ ks, k ∈ all.flatMap refs := fun k hk => (hsub k hk).resolve_left (by simp)
  obtain ⟨hT, hG⟩ := given_tot (X := X) (C := C) (w := w) (lent := lent) hg hnd (fun k o hk ho => hok k o (hsub k hk) ho) hdist hlt hxl
  obtain ⟨hTrip, hGave⟩ := hH _ _ _ _ _ hG hr
  obtain ⟨hg1, hg2⟩ := given_get hg
  have hpre : ArgPre X w C h (fun k => k ∈ all.flatMap refs) ks := ⟨fun k o hk ho => hok k o hk ho, hdist, fun i k hi => by
    obtain ⟨e, v, cs, a1, _⟩ := hg2 i k hi
    exact ⟨e, v, cs, a1⟩⟩
  have hargs := argTs_rel (lent := lent) hpre ha (fun hh => hh) (fun k hk => hk) ⟨[], by simp⟩ hall
  refine ⟨ks, hsub, fun _ _ => .inr trivial, ⟨as', lent, ha⟩, hTrip.1, (hTrip.2 _ w _ us hT hargs).mono fun en w' hen => ?_⟩
  obtain ⟨u, C1, rfl, T1, hru, hpost⟩ := hen
  obtain ⟨t1, t2, t3⟩ := takeBack_get hL hnd
  obtain ⟨g1, g2, g3⟩ := hGave
  dsimp only at g1 g2 g3
  rw [hg1] at g1 g3
  -- the boxes lie where they lay
  have hbox : ∀ (i k : Nat), ks[i]? = some k → ∃ e v0 cs g us', h.objs[k]? = some (.box e v0 cs) ∧ C k = some (.live v0 (.pointer (some ⟨g, 0, none⟩)) 0) ∧ C1 i = some (.live i (.pointer (some ⟨g, 0, none⟩)) 0) ∧ v0 < h.nv ∧
      ∃ cs', h1.objs[i]? = some (.box e i cs') ∧ cs'.all isIv = true ∧ L[k]? = some (.box e v0 cs') ∧ w'.heap[g]? = some (.cells us'.toArray e (0, 0)) ∧ ARels w' (Shut (subX X C ks lent) C1) C1 h1.nv cs' us' := by
    intro i k hi
    obtain ⟨e, v0, cs, cs0, a1, a2, a3, a4⟩ := t3 i k hi
    rw [Nat.zero_add] at a1
    obtain ⟨hv0, gg, us0, hC, hgg, _⟩ := hok k _ (hsub k (List.mem_of_getElem? hi)) a3
    obtain ⟨hv1, g', us', hC1, hg', hrs⟩ := T1.ok i _ a1
    have hs : subC C ks i = some (.live i (.pointer (some ⟨gg, 0, none⟩)) 0) := by simp [subC, hi, hC]
    obtain ⟨co', hco', hl⟩ := hpost.keep i _ hs
    rw [hC1] at hco'
    cases hco'
    have hil : i < ks.length := (List.getElem?_eq_some_iff.1 hi).1
    have : g' = gg := by
      rcases hl with hl | hl
      · cases hl; rfl
      · have := hl i _ _ rfl
        simp at this
        omega
    subst this
    exact ⟨e, v0, cs0, g', us', a3, hC, hC1, hv0, cs, a1, a2, a4, hg', hrs⟩
  -- the rows
  have hrow : ∀ (j : Nat) (o : Obj), h1.objs[ks.length + j]? = some o → ∃ e sz es, o = .row e sz (ks.length + j) es := fun j o ho => g1 _ o (by omega) ho
  have hm : ((h1.objs.drop ks.length).map (renO h.nv ks.length)).length = h1.objs.length - ks.length := by simp
  have hL2 : L.length + (h1.objs.length - ks.length) = (L ++ (h1.objs.drop ks.length).map (renO h.nv ks.length)).length := by simp
  obtain ⟨hi, hhi⟩ : ∃ hi, hi = h.objs.length + (h1.objs.length - ks.length) := ⟨_, rfl⟩
  have hlo : L.length = h.objs.length := t1
  let C2 : Conc := backC C C1 h.objs.length hi h.nv ks.length
  have c2old : ∀ k, ¬ (h.objs.length ≤ k ∧ k < hi) → C2 k = C k := fun k hk => if_neg hk
  have c2new : ∀ k, h.objs.length ≤ k → k < hi → ∃ e sz es val us', h1.objs[ks.length + (k - h.objs.length)]? = some (.row e sz (ks.length + (k - h.objs.length)) es) ∧ C1 (ks.length + (k - h.objs.length)) = some (.live (ks.length + (k - h.objs.length)) val sz) ∧
      C2 k = some (.live (h.nv + (k - h.objs.length)) val sz) ∧ 0 < sz ∧ Held w' e sz val es.length us' ∧ RowRel w' (Shut (subX X C ks lent) C1) sz es us' := by
    intro k hk1 hk2
    have hlt2 : ks.length + (k - h.objs.length) < h1.objs.length := by omega
    obtain ⟨e, sz, es, ho⟩ := hrow (k - h.objs.length) _ (List.getElem?_eq_getElem hlt2)
    have ho2 := List.getElem?_eq_getElem hlt2
    rw [ho] at ho2
    obtain ⟨_, hz, val, us', hC1, hown, hrr⟩ := T1.ok _ _ ho2
    refine ⟨e, sz, es, val, us', ho2, hC1, ?_, hz, hown, hrr⟩
    show (if h.objs.length ≤ k ∧ k < hi then _ else _) = _
    rw [if_pos ⟨hk1, hk2⟩, hC1]
    simp
  have ownNew : ∀ k b, h.objs.length ≤ k → k < hi → OwnsB C2 k b → OwnsB C1 (ks.length + (k - h.objs.length)) b := by
    rintro k b hk1 hk2 ⟨ver, val, sz, hc, hb⟩
    obtain ⟨e, sz', es, val', us', _, hC1, hC2, _⟩ := c2new k hk1 hk2
    rw [hC2] at hc
    cases hc
    exact ⟨_, _, _, hC1, hb⟩
  have ownBox : ∀ (i k b : Nat), ks[i]? = some k → OwnsB C k b → OwnsB C1 i b := by
    rintro i k b hi2 ⟨ver, val, sz, hc, hb⟩
    obtain ⟨e, v0, cs, g, us', _, hC, hC1, _⟩ := hbox i k hi2
    rw [hC] at hc
    cases hc
    exact ⟨_, _, _, hC1, hb⟩
  have newBlk : ∀ k b, h.objs.length ≤ k → k < hi → OwnsB C2 k b → w.heap.size ≤ b := by
    intro k b hk1 hk2 ho
    have h3 := ownNew k b hk1 hk2 ho
    rcases hpost.liveB b ⟨_, h3⟩ with ⟨i, hs⟩ | hge
    · obtain ⟨k', hk', ho'⟩ := subC_owns hs
      have := T1.dist _ _ b h3 (ownBox i k' b hk' ho')
      have := (List.getElem?_eq_some_iff.1 hk').1
      omega
    · exact hge
  have notin : ∀ k, k ∈ ks → k < h.objs.length := fun k hk => by
    obtain ⟨i, hi2⟩ := List.mem_iff_getElem?.1 hk
    obtain ⟨e, v0, cs, g, us', a1, _⟩ := hbox i k hi2
    exact (List.getElem?_eq_some_iff.1 a1).1
  have hshut : lent = false → ∀ b, Shut X C2 b → Shut (subX X C ks lent) C1 b := by
    intro hlf b hb
    have fromC : Shut X C b → Shut (subX X C ks lent) C1 b := by
      intro hb
      by_cases hs : LiveB (subC C ks) b
      · obtain ⟨i, hs⟩ := hs
        obtain ⟨k', hk', ho'⟩ := subC_owns hs
        exact .inr ⟨i, ownBox i k' b hk' ho'⟩
      · exact .inl ⟨hlf, hb, hs⟩
    rcases hb with hb | ⟨k, hk⟩
    · exact fromC (.inl hb)
    · by_cases hn : h.objs.length ≤ k ∧ k < hi
      · exact .inr ⟨_, ownNew k b hn.1 hn.2 hk⟩
      · obtain ⟨ver, val, sz, hc, hb⟩ := hk
        rw [c2old k hn] at hc
        exact fromC (.inr ⟨k, ver, val, sz, hc, hb⟩)
  have D : Delta X w C h.nv ks h.objs.length hi w' C2 (h.nv + (h1.objs.length - ks.length)) := {
    os := hpost.os
    tape := hpost.tape
    output := hpost.output
    size := hpost.size
    blk := fun b hb hk => hpost.blk b hb (fun ⟨i, hs⟩ => by
      obtain ⟨k', hk', ho'⟩ := subC_owns hs
      exact hk k' (List.mem_of_getElem? hk') ho')
    same := fun k hk hn => c2old k hn
    turned := fun k co hk hc => ⟨co, by rw [c2old k (by have := notin k hk; omega)]; exact hc, .inl rfl⟩
    fresh := fun k k1 k2 _ => by
      obtain ⟨e, sz', es, val', us', _, hC1, hC2, _⟩ := c2new k k1 k2
      exact ⟨_, hC2, fun ver v sz e => by cases e; omega⟩
    liveB := fun b ⟨k, hk⟩ => by
      by_cases hn : h.objs.length ≤ k ∧ k < hi
      · exact .inr (newBlk k b hn.1 hn.2 hk)
      · obtain ⟨ver, val, sz, hc, hb⟩ := hk
        rw [c2old k hn] at hc
        exact .inl ⟨k, ver, val, sz, hc, hb⟩
    dist := fun _ _ k k' b h2 h3 => by
      by_cases hn : h.objs.length ≤ k ∧ k < hi <;> by_cases hn' : h.objs.length ≤ k' ∧ k' < hi
      · have := T1.dist _ _ b (ownNew k b hn.1 hn.2 h2) (ownNew k' b hn'.1 hn'.2 h3)
        omega
      · have := newBlk k b hn.1 hn.2 h2
        obtain ⟨ver, val, sz, hc, hb⟩ := h3
        rw [c2old k' hn'] at hc
        have := hlt b ⟨k', ver, val, sz, hc, hb⟩
        omega
      · have := newBlk k' b hn'.1 hn'.2 h3
        obtain ⟨ver, val, sz, hc, hb⟩ := h2
        rw [c2old k hn] at hc
        have := hlt b ⟨k, ver, val, sz, hc, hb⟩
        omega
      · obtain ⟨ver, val, sz, hc, hb⟩ := h2
        obtain ⟨ver', val', sz', hc', hb'⟩ := h3
        rw [c2old k hn] at hc
        rw [c2old k' hn'] at hc'
        exact hdist k k' b ⟨_, _, _, hc, hb⟩ ⟨_, _, _, hc', hb'⟩
    lt := fun _ b ⟨k, hk⟩ => by
      by_cases hn : h.objs.length ≤ k ∧ k < hi
      · exact T1.lt b ⟨_, ownNew k b hn.1 hn.2 hk⟩
      · obtain ⟨ver, val, sz, hc, hb⟩ := hk
        rw [c2old k hn] at hc
        have := hlt b ⟨k, ver, val, sz, hc, hb⟩
        have := hpost.size
        omega
    nv := by omega }
  have hlent2 : lent = true → scalR r = true ∧ h1.objs.all scalO = true := fun hh => by
    rw [hh] at hlent
    simpa using hlent
  have hlent3 : ∀ k, h.objs.length ≤ k → k < hi → lent = false := by
    intro k k1 k2
    cases hq : lent with
    | false => rfl
    | true =>
      obtain ⟨e, sz', es, val', us', ho, _⟩ := c2new k k1 k2
      have := List.all_eq_true.1 (hlent2 hq).2 _ (List.mem_of_getElem? ho)
      simp [scalO] at this
  refine ⟨u, C2, rfl, ⟨by rw [← hL2, hlo, ← hhi]; exact D, ?_, ?_, ?_, by simp [hlo]⟩⟩
  · -- the result
    refine ren_rel (w := w') (S := Shut (subX X C ks lent) C1) (C := C1) (nv := h1.nv) (fun y q hy hsc => ?_) hru
    cases hq : lent with
    | true =>
      have hs := hsc (hlent2 hq).1
      rw [scal_ren hs]
      exact scal_rel hs hy
    | false =>
      cases y with
      | iv x => exact .iv (hy.inv_iv.anti (hshut hq))
      | osl k ver =>
        simp only [renC]
        split
        · rename_i hkv
          obtain ⟨hvn, h1c, co, hco, h3⟩ := hy.inv_osl
          have hk2 : k < h1.objs.length := hkv.2.2
          have hkk : ks.length + (L.length + (k - ks.length) - h.objs.length) = k := by omega
          obtain ⟨e, sz', es, val', us', ho, hC1, hC2, _⟩ := c2new (L.length + (k - ks.length)) (by omega) (by omega)
          rw [hkk] at hC1 ho
          rw [hC1] at hco
          cases hco
          refine .osl _ _ _ _ (by show _ < h.nv + _; omega) hC2 h1c fun v sz e => ?_
          have e1 := (CO.live.injEq _ _ _ _ _ _).mp e
          have hver : k = ver := by omega
          obtain ⟨_, rfl, rfl⟩ := e1
          subst hver
          exact h3 _ _ rfl
        · exact .un _
      | _ => exact .un _
  · -- the objects
    intro k o hk ho
    simp only at ho
    by_cases hkl : k < L.length
    · have hk : k ∈ ks := hk.resolve_right (by omega)
      rw [List.getElem?_append_left hkl] at ho
      obtain ⟨i, hi2⟩ := List.mem_iff_getElem?.1 hk
      obtain ⟨e, v0, cs, g, us', a1, hC, hC1, hv0, cs', a2, a3, a4, a5, a6⟩ := hbox i k hi2
      rw [a4] at ho
      cases ho
      refine ⟨by show v0 < h.nv + _; omega, g, us', by rw [c2old k (by omega)]; exact hC, a5, ?_⟩
      cases hq : lent with
      | false =>
        rw [hq] at a6
        exact isIv_rel (hq ▸ hshut hq) a3 a6
      | true =>
        have := List.all_eq_true.1 (hlent2 hq).2 _ (List.mem_of_getElem? a2)
        simp only [scalO] at this
        exact ⟨a6.1, fun j x q b1 b2 => scal_rel (List.all_eq_true.1 this x (List.mem_of_getElem? b1)) (a6.2 j x q b1 b2)⟩
    · rw [List.getElem?_append_right (by omega), List.getElem?_map, List.getElem?_drop] at ho
      obtain ⟨o1, ho1, rfl⟩ := map_some ho
      have hk2 : k < hi := by
        have := (List.getElem?_eq_some_iff.1 ho1).1
        omega
      obtain ⟨e, sz', es, val', us', ho2, hC1, hC2, hz, hown, hrr⟩ := c2new k (by omega) hk2
      have hkk : ks.length + (k - L.length) = ks.length + (k - h.objs.length) := by omega
      rw [hkk, ho2] at ho1
      cases ho1
      simp only [renO]
      refine ⟨by omega, hz, val', us', ?_, hown, ⟨hrr.1, fun i d j x q b1 b2 b3 => (hrr.2 i d j x q b1 b2 b3).anti (hshut (hlent3 k (by omega) hk2))⟩⟩
      rw [hC2]
      congr 2
      omega
  · intro k hk hks
    simp only
    rw [List.getElem?_append_left (by omega), t2 k hks]
end
end Go.Om
