/-
  Om: the bookkeeping.
-/
import Derived.Test.YtihhnicfkeiglaaOm23
set_option linter.all false
namespace Go.Om
open Go Go.RowKit

section
variable {P : Program} {X : Nat → Prop} {w w' w'' : World} {C C' C'' : Conc} {h h' ĥ : Hp} {v : AV} {e ê e' : AEnv} {i : AI} {xr : Xr} {hd : Hdl} {mset eqs : List Nat} {n : Nat} {a : Act} {u : Value}

/-- Some objects are let go: nothing of the world moves. -/
def deadC (C : Conc) (D : Nat → Prop) [DecidablePred D] : Conc := fun k => if D k then (match C k with | some _ => some .dead | none => none) else C k
section
variable {D : Nat → Prop} [DecidablePred D]
theorem deadC_owns {k b : Nat} (ho : OwnsB (deadC C D) k b) : ¬ D k ∧ OwnsB C k b := by
  obtain ⟨ver, val, sz, hc, hb⟩ := ho
  unfold deadC at hc
  split at hc
  · split at hc <;> simp at hc
  · rename_i hd
    exact ⟨hd, _, _, _, hc, hb⟩
theorem deadC_live {b : Nat} (hl : LiveB (deadC C D) b) : LiveB C b := by
  obtain ⟨k, hk⟩ := hl
  exact ⟨k, (deadC_owns hk).2⟩
theorem deadC_post : Post X w C n w (deadC C D) n where
  os := rfl
  tape := rfl
  output := rfl
  size := Nat.le_refl _
  blk := fun _ _ _ => rfl
  liveB := fun b hl => .inl (deadC_live hl)
  keep := fun k co hc => by
    unfold deadC
    split
    · exact ⟨.dead, by rw [hc], .inr fun ver v sz hh => by cases hh⟩
    · exact ⟨co, hc, .inl rfl⟩
  nv := Nat.le_refl _
theorem deadC_not {k : Nat} (hd : ¬ D k) : deadC C D k = C k := by simp [deadC, hd]
end

theorem objOk_ext {k : Nat} {o : Obj} (hc : C' k = C k) (E : Ext w (Shut X C) C n w (Shut X C') C' n) (ho : ObjOk w (Shut X C) C n k o) : ObjOk w (Shut X C') C' n k o := by
  cases o with
  | gone => trivial
  | box e ver cells =>
    obtain ⟨hv, g, us, h1, h2, h3⟩ := ho
    exact ⟨hv, g, us, by rw [hc]; exact h1, h2, h3.ext E⟩
  | row e sz ver es =>
    obtain ⟨hv, hz, v, us, h1, h2, h3⟩ := ho
    exact ⟨hv, hz, v, us, by rw [hc]; exact h1, h2, ObjOk.mono_row E.lasts h3⟩

theorem dead_tot {D : Nat → Prop} [DecidablePred D] {objs : List Obj} (T : Tot X w C h) (hob : ∀ k o, objs[k]? = some o → (D k → o = .gone) ∧ (¬ D k → h.objs[k]? = some o)) (hlen : ∀ k, objs.length ≤ k → ¬ D k → h.objs.length ≤ k) : Tot X w (deadC C D) ⟨objs, h.nv⟩ where
  ok := fun k o ho => by
    obtain ⟨h1, h2⟩ := hob k o ho
    by_cases hd : D k
    · rw [h1 hd]; trivial
    · exact objOk_ext (deadC_not hd) (deadC_post (n := h.nv)).ext (T.ok k o (h2 hd))
  dist := fun k k' b h1 h2 => T.dist k k' b (deadC_owns h1).2 (deadC_owns h2).2
  lt := fun b hb => T.lt b (deadC_live hb)
  out := fun k hk => by
    by_cases hd : D k
    · unfold deadC
      rw [if_pos hd]
      split
      · exact .inr rfl
      · exact .inl rfl
    · rw [deadC_not hd]
      exact T.out k (hlen k hk hd)
  xlt := T.xlt
  xdist := fun b hb hl => T.xdist b hb (deadC_live hl)

/-- The row k as a tree, once k is let go. -/
theorem row_tree {k ver t sz : Nat} {es : List (List IV)} (T : Tot X w C h) (hrow : rowAt h k ver = some (t, sz, es)) (hr : ARel w (Shut X C) C h.nv (.osl k ver) u) : IRel w (Shut X (deadC C (· = k))) (.sl es) u := by
  have hv := elemsOf_rel (show elemsOf h (.osl k ver) = some es by simp [elemsOf, hrow]) (fun k' o hk' ho => T.ok k' o ho) hr
  refine hv.irel (fun b hb => hb.imp id deadC_live) fun b off n c hu h0 hs => ?_
  obtain ⟨_, _, _, val, us, hC, hown, _⟩ := rowAt_rel hrow (fun o ho => T.ok k o ho)
  obtain ⟨_, _, co, hco, h3⟩ := hr.inv_osl
  rw [hC] at hco
  cases hco
  have hval := h3 _ _ rfl
  have hob : OwnsB C k b := ⟨_, _, _, hC, by rw [← hval, hu]; rfl⟩
  rcases hs with hs | ⟨k', hk'⟩
  · exact T.xdist b hs ⟨k, hob⟩
  · obtain ⟨h4, h5⟩ := deadC_owns hk'
    exact h4 (T.dist _ _ b h5 hob)

theorem St.upd (hs : St X n e h a w C) {t : Nat} (hv : ∀ u, ARel w (Shut X C) C h.nv (e t) u → ARel w (Shut X C) C h.nv v u) : St X n (upd e (some t) v) h a w C where
  tot := hs.tot
  size := hs.size
  defers := hs.defers
  tmp := fun q u hq hu => by
    simp only [Go.Om.upd]
    split
    · rename_i hqt
      subst hqt
      exact hv u (hs.tmp _ u hq hu)
    · exact hs.tmp q u hq hu
theorem St.ext (hs : St X n e h a w C) (T : Tot X w C' h') (E : Ext w (Shut X C) C h.nv w (Shut X C') C' h'.nv) : St X n e h' a w C' := ⟨T, hs.size, fun t u ht hu => (hs.tmp t u ht hu).ext E, hs.defers⟩

theorem set_get {L : List Obj} {k q : Nat} {o o' : Obj} (h : (L.set k o)[q]? = some o') : (q = k ∧ o' = o) ∨ (q ≠ k ∧ L[q]? = some o') := by
  rw [List.getElem?_set] at h
  split at h
  · rename_i hk
    split at h
    · simp only [Option.some.injEq] at h
      exact .inl ⟨hk.symm, h.symm⟩
    · simp at h
  · rename_i hk
    exact .inr ⟨fun hh => hk hh.symm, h⟩

theorem setCell {cs : List AV} {us : List Value} {S : Nat → Prop} {nv j : Nat} {x : AV} (hr : ARels w S C nv cs us) (hx : ∀ u, us[j]? = some u → ARel w S C nv x u) : ARels w S C nv (cs.set j x) us := by
  refine ⟨by simp [hr.1], fun q y u h1 h2 => ?_⟩
  rw [List.getElem?_set] at h1
  split at h1
  · rename_i hq
    subst hq
    split at h1
    · simp only [Option.some.injEq] at h1
      subst h1
      exact hx u h2
    · simp at h1
  · exact hr.2 q y u h1 h2

theorem ghost_sound {g : Gh} (hg : aghost g e h = some (e', h')) (hgt : ghOk n (.gh g .skip) = true) (hs : St X n e h a w C) : ∃ C', St X n e' h' a w C' ∧ Post X w C h.nv w C' h'.nv := by
  cases g with
  | adopt t sz q =>
    simp only [aghost] at hg
    split at hg
    · rename_i hq
      split at hg
      · simp at hg
      · rename_i hz
        simp only [Option.some.injEq, Prod.mk.injEq] at hg
        obtain ⟨rfl, rfl⟩ := hg
        have R := Res.newNil (X := X) (hs.tot.pre [] _) t sz (by omega)
        have hst := hs.ext (hs.tot.res R) (hs.tot.resExt R)
        refine ⟨_, hst.upd (fun u hu => ?_), R.D.post (hs.tot.free _)⟩
        rw [hq] at hu
        cases hu
        exact R.r
    · simp at hg
  | freeze q =>
    simp only [aghost] at hg
    split at hg
    · rename_i k ver hq
      obtain ⟨⟨t, sz, es⟩, h1, h2⟩ := map_some hg
      simp only [Prod.mk.injEq] at h2
      obtain ⟨rfl, rfl⟩ := h2
      have T : Tot X w (deadC C (· = k)) { h with objs := h.objs.set k .gone } := dead_tot hs.tot (fun q o ho => by
        rcases set_get ho with ⟨h3, h4⟩ | ⟨h3, h4⟩
        · exact ⟨fun _ => h4, fun hh => absurd h3 hh⟩
        · exact ⟨fun hh => absurd hh h3, fun _ => h4⟩) (fun q hq _ => by simpa using hq)
      have hpo : Post X w C h.nv w (deadC C (· = k)) h.nv := deadC_post
      refine ⟨_, ?_, hpo⟩
      have htq : q < n := by simpa [ghOk] using hgt
      have hlt := Nat.lt_of_lt_of_le htq hs.size
      have hval := hs.tmp q _ htq (Array.getElem?_eq_getElem hlt)
      rw [hq] at hval
      have htree := row_tree hs.tot h1 hval
      have hst := hs.ext (h' := { h with objs := h.objs.set k .gone }) T hpo.ext
      refine ⟨T, hs.size, fun t' u ht hu => ?_, hs.defers⟩
      simp only [Go.Om.upd]
      split
      · rename_i htt
        subst htt
        rw [Array.getElem?_eq_getElem hlt] at hu
        simp only [Option.some.injEq] at hu
        rw [← hu]
        exact .iv htree
      · exact hst.tmp t' u ht hu
    · simp at hg
  | adoptC t sz k j =>
    simp only [aghost] at hg
    split at hg
    · rename_i bt ver cs hk
      split at hg
      · rename_i hj
        split at hg
        · simp at hg
        · rename_i hz
          simp only [Option.some.injEq, Prod.mk.injEq] at hg
          obtain ⟨rfl, rfl⟩ := hg
          have R := Res.newNil (X := X) (hs.tot.pre [] _) t sz (by omega)
          have T := hs.tot.res R
          have hkl : k < h.objs.length := (List.getElem?_eq_some_iff.1 hk).1
          refine ⟨_, ⟨⟨fun q o ho => ?_, T.dist, T.lt, fun q hq => T.out q (by simpa using hq), T.xlt, T.xdist⟩, hs.size, (hs.ext T (hs.tot.resExt R)).tmp, hs.defers⟩, R.D.post (hs.tot.free _)⟩
          simp only at ho
          by_cases hqk : q = k
          · subst hqk
            rw [List.getElem?_append_left (by simpa using hkl), List.getElem?_set_self hkl] at ho
            cases ho
            obtain ⟨hv, g, us, h1, h2, h3⟩ := T.ok q (.box bt ver cs) (by simp only; rw [List.getElem?_append_left hkl]; exact hk)
            refine ⟨hv, g, us, h1, h2, setCell h3 fun u hu => ?_⟩
            have h4 := h3.2 j _ u hj hu
            cases h4
            exact R.r
          · refine T.ok q o ?_
            simp only
            by_cases hql : q < h.objs.length
            · rw [List.getElem?_append_left (by simpa using hql), List.getElem?_set_ne (fun hh => hqk hh.symm)] at ho
              rw [List.getElem?_append_left hql]
              exact ho
            · rw [List.getElem?_append_right (by simp; omega)] at ho
              rw [List.getElem?_append_right (by omega)]
              simpa using ho
      · simp at hg
    · simp at hg
  | freezeC k j =>
    simp only [aghost] at hg
    split at hg
    · rename_i bt ver cs hk
      split at hg
      · rename_i k' ver' hj
        obtain ⟨⟨t, sz, es⟩, h1, h2⟩ := map_some hg
        simp only [Prod.mk.injEq] at h2
        obtain ⟨rfl, rfl⟩ := h2
        have hkl : k < h.objs.length := (List.getElem?_eq_some_iff.1 hk).1
        have hne : k ≠ k' := by
          intro hh
          subst hh
          unfold rowAt at h1
          rw [hk] at h1
          simp at h1
        have T : Tot X w (deadC C (· = k')) { h with objs := h.objs.set k' .gone } := dead_tot hs.tot (fun q o ho => by
          rcases set_get ho with ⟨h3, h4⟩ | ⟨h3, h4⟩
          · exact ⟨fun _ => h4, fun hh => absurd h3 hh⟩
          · exact ⟨fun hh => absurd hh h3, fun _ => h4⟩) (fun q hq _ => by simpa using hq)
        have hpo : Post X w C h.nv w (deadC C (· = k')) h.nv := deadC_post
        refine ⟨_, ⟨⟨fun q o ho => ?_, T.dist, T.lt, fun q hq => T.out q (by simpa using hq), T.xlt, T.xdist⟩, hs.size, (hs.ext T hpo.ext).tmp, hs.defers⟩, hpo⟩
        simp only at ho
        rcases set_get ho with ⟨h3, h4⟩ | ⟨h3, h4⟩
        · subst h4; trivial
        · rcases set_get h4 with ⟨h5, h6⟩ | ⟨h5, h6⟩
          · subst h5
            subst h6
            obtain ⟨hv, g, us, c1, c2, c3⟩ := T.ok q (.box bt ver cs) (by simp only; rw [List.getElem?_set_ne (fun hh => h3 hh.symm)]; exact hk)
            refine ⟨hv, g, us, c1, c2, setCell c3 fun u hu => ?_⟩
            obtain ⟨_, g0, us0, d1, d2, d3⟩ := hs.tot.ok q _ hk
            rw [deadC_not (D := (· = k')) h3] at c1
            rw [c1] at d1
            simp only [Option.some.injEq, CO.live.injEq, Value.pointer.injEq, Addr.mk.injEq, true_and, and_true] at d1
            subst d1
            rw [c2] at d2
            simp only [Option.some.injEq, Go.Obj.cells.injEq, and_true, true_and] at d2
            have : us = us0 := by simpa using d2
            subst this
            exact .iv (row_tree hs.tot h1 (d3.2 j _ u hj hu))
          · exact T.ok q o (by simp only; rw [List.getElem?_set_ne (fun hh => h3 hh.symm)]; exact h6)
      · simp at hg
    · simp at hg
  | drop q =>
    simp only [aghost, Option.some.injEq, Prod.mk.injEq] at hg
    obtain ⟨rfl, rfl⟩ := hg
    have T : Tot X w (deadC C (q ≤ ·)) { h with objs := h.objs.take q } := dead_tot hs.tot (fun k o ho => by
        rw [List.getElem?_take] at ho
        split at ho
        · rename_i hk
          exact ⟨fun hh => by omega, fun _ => ho⟩
        · simp at ho) (fun k hk hd => by simp at hk; omega)
    exact ⟨_, hs.ext T deadC_post.ext, deadC_post⟩
end
end Go.Om
