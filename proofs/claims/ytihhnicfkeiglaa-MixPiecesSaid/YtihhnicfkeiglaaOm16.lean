/-
  Om: the call of a Go function.
-/
import Derived.Test.YtihhnicfkeiglaaOm15
set_option linter.all false
namespace Go.Om
open Go Go.RowKit

section
variable {P : Program} {X : Nat → Prop} {w w' w'' : World} {C C' C'' : Conc} {h h' : Hp} {v : AV} {u : Value} {nv nv' nv'' : Nat} {S : Nat → Prop} {hd : Hdl}

theorem argCs_mono {xs xs' : List AV} {ks ks' : List Nat} {l : Bool} (hc : argCs h xs ks = some (xs', ks', l)) : ∃ t, ks' = ks ++ t := by
  induction xs generalizing xs' ks ks' l with
  | nil => simp [argCs] at hc; exact ⟨[], by simp [hc.2.1]⟩
  | cons a r ih =>
    simp only [argCs] at hc
    obtain ⟨⟨a1, k1, l1⟩, h1, h2⟩ := bind_some hc
    obtain ⟨⟨r1, k2, l2⟩, h3, h4⟩ := map_some h2
    cases h4
    obtain ⟨t1, e1⟩ := argC_mono h1
    obtain ⟨t2, e2⟩ := ih h3
    exact ⟨t1 ++ t2, by rw [e2, e1, List.append_assoc]⟩
theorem argT_mono {a a' : AV} {ks ks' : List Nat} {l : Bool} (hc : argT h a ks = some (a', ks', l)) : ∃ t, ks' = ks ++ t := by
  unfold argT at hc
  split at hc
  · obtain ⟨⟨r1, k2, l2⟩, h3, h4⟩ := map_some hc
    cases h4
    exact argCs_mono h3
  · obtain ⟨⟨r1, k2, l2⟩, h3, h4⟩ := map_some hc
    cases h4
    exact argCs_mono h3
  · exact argC_mono hc
theorem argTs_mono {xs xs' : List AV} {ks ks' : List Nat} {l : Bool} (hc : argTs h xs ks = some (xs', ks', l)) : ∃ t, ks' = ks ++ t := by
  induction xs generalizing xs' ks ks' l with
  | nil => simp [argTs] at hc; exact ⟨[], by simp [hc.2.1]⟩
  | cons a r ih =>
    simp only [argTs] at hc
    obtain ⟨⟨a1, k1, l1⟩, h1, h2⟩ := bind_some hc
    obtain ⟨⟨r1, k2, l2⟩, h3, h4⟩ := map_some h2
    cases h4
    obtain ⟨t1, e1⟩ := argT_mono h1
    obtain ⟨t2, e2⟩ := ih h3
    exact ⟨t1 ++ t2, by rw [e2, e1, List.append_assoc]⟩

/-- No box is handed over twice; each is looked at by the arguments. -/
theorem argC_nodup {a a' : AV} {ks ks' : List Nat} {l : Bool} (hc : argC h a ks = some (a', ks', l)) (hn : ks.Nodup) : ks'.Nodup ∧ ∀ k ∈ ks', k ∈ ks ∨ k ∈ refs1 a := by
  unfold argC at hc
  split at hc
  · cases hc; exact ⟨hn, fun k hk => .inl hk⟩
  · cases hc; exact ⟨hn, fun k hk => .inl hk⟩
  · obtain ⟨es, _, h2⟩ := map_some hc; cases h2; exact ⟨hn, fun k hk => .inl hk⟩
  · obtain ⟨es, _, h2⟩ := map_some hc; cases h2; exact ⟨hn, fun k hk => .inl hk⟩
  · rename_i k ver
    split at hc
    · split at hc
      · split at hc
        · cases hc; exact ⟨hn, fun k hk => .inl hk⟩
        · rename_i hi
          cases hc
          have hnot : k ∉ ks := by
            intro hk
            have := List.idxOf?_eq_none_iff.1 hi
            exact this hk
          refine ⟨?_, fun q hq => ?_⟩
          · rw [List.nodup_append]
            refine ⟨hn, by simp, fun a ha b hb => ?_⟩
            simp at hb
            subst hb
            exact fun e => hnot (e ▸ ha)
          · rcases List.mem_append.1 hq with hq | hq
            · exact .inl hq
            · simp at hq; subst hq; exact .inr (by simp [refs1])
      · simp at hc
    · simp at hc
  · simp at hc
theorem argCs_nodup {xs xs' : List AV} {ks ks' : List Nat} {l : Bool} (hc : argCs h xs ks = some (xs', ks', l)) (hn : ks.Nodup) : ks'.Nodup ∧ ∀ k ∈ ks', k ∈ ks ∨ k ∈ xs.flatMap refs1 := by
  induction xs generalizing xs' ks ks' l with
  | nil => simp [argCs] at hc; obtain ⟨_, rfl, _⟩ := hc; exact ⟨hn, fun k hk => .inl hk⟩
  | cons a r ih =>
    simp only [argCs] at hc
    obtain ⟨⟨a1, k1, l1⟩, h1, h2⟩ := bind_some hc
    obtain ⟨⟨r1, k2, l2⟩, h3, h4⟩ := map_some h2
    cases h4
    obtain ⟨n1, m1⟩ := argC_nodup h1 hn
    obtain ⟨n2, m2⟩ := ih h3 n1
    refine ⟨n2, fun k hk => ?_⟩
    rcases m2 k hk with hk | hk
    · rcases m1 k hk with hk | hk
      · exact .inl hk
      · exact .inr (by simp [hk])
    · exact .inr (by rw [List.flatMap_cons]; exact List.mem_append_right _ hk)
theorem argT_nodup {a a' : AV} {ks ks' : List Nat} {l : Bool} (hc : argT h a ks = some (a', ks', l)) (hn : ks.Nodup) : ks'.Nodup ∧ ∀ k ∈ ks', k ∈ ks ∨ k ∈ refs a := by
  unfold argT at hc
  split at hc
  · obtain ⟨⟨r1, k2, l2⟩, h3, h4⟩ := map_some hc
    cases h4
    exact argCs_nodup h3 hn
  · obtain ⟨⟨r1, k2, l2⟩, h3, h4⟩ := map_some hc
    cases h4
    exact argCs_nodup h3 hn
  · rename_i ha1 ha2
    have : refs a = refs1 a := by
      cases a <;> first | rfl | (exact absurd rfl (ha1 _)) | (exact absurd rfl (ha2 _ _))
    rw [this]
    exact argC_nodup hc hn
theorem argTs_nodup {xs xs' : List AV} {ks ks' : List Nat} {l : Bool} (hc : argTs h xs ks = some (xs', ks', l)) (hn : ks.Nodup) : ks'.Nodup ∧ ∀ k ∈ ks', k ∈ ks ∨ k ∈ xs.flatMap refs := by
  induction xs generalizing xs' ks ks' l with
  | nil => simp [argTs] at hc; obtain ⟨_, rfl, _⟩ := hc; exact ⟨hn, fun k hk => .inl hk⟩
  | cons a r ih =>
    simp only [argTs] at hc
    obtain ⟨⟨a1, k1, l1⟩, h1, h2⟩ := bind_some hc
    obtain ⟨⟨r1, k2, l2⟩, h3, h4⟩ := map_some h2
    cases h4
    obtain ⟨n1, m1⟩ := argT_nodup h1 hn
    obtain ⟨n2, m2⟩ := ih h3 n1
    refine ⟨n2, fun k hk => ?_⟩
    rcases m2 k hk with hk | hk
    · rcases m1 k hk with hk | hk
      · exact .inl hk
      · exact .inr (by simp [hk])
    · exact .inr (by rw [List.flatMap_cons]; exact List.mem_append_right _ hk)

theorem argCs_rel {K : Nat → Prop} {xs xs' : List AV} {us : List Value} {ks ks' Ks : List Nat} {l lent : Bool} (pre : ArgPre X w C h K Ks) (hc : argCs h xs ks = some (xs', ks', l)) (hl : l = true → lent = true) (hK : ∀ k, k ∈ xs.flatMap refs1 → K k) (hpre : ∃ t, Ks = ks' ++ t) (hr : ARels w (Shut X C) C h.nv xs us) :
    ARels w (Shut (subX X C Ks lent) (subC C Ks)) (subC C Ks) Ks.length xs' us := by
  induction xs generalizing xs' us ks ks' l with
  | nil =>
    simp [argCs] at hc
    obtain ⟨rfl, _, _⟩ := hc
    have : us = [] := List.eq_nil_of_length_eq_zero (by rw [← hr.1]; rfl)
    subst this
    exact .nil
  | cons a r ih =>
    simp only [argCs] at hc
    obtain ⟨⟨a1, k1, l1⟩, h1, h2⟩ := bind_some hc
    obtain ⟨⟨r1, k2, l2⟩, h3, h4⟩ := map_some h2
    cases h4
    obtain ⟨u, ur, rfl, h5, h6⟩ := hr.uncons
    obtain ⟨t2, e2⟩ := argCs_mono h3
    obtain ⟨t, e⟩ := hpre
    refine .cons (argC_rel pre h1 (fun hh => hl (by simp [hh])) (fun k hk => hK k (by simp [hk])) ⟨t2 ++ t, by rw [e, e2, List.append_assoc]⟩ h5) (ih h3 (fun hh => hl (by simp [hh])) (fun k hk => hK k (by rw [List.flatMap_cons]; exact List.mem_append_right _ hk)) ⟨t, e⟩ h6)
theorem argT_rel {K : Nat → Prop} {a a' : AV} {ks ks' Ks : List Nat} {l lent : Bool} (pre : ArgPre X w C h K Ks) (hc : argT h a ks = some (a', ks', l)) (hl : l = true → lent = true) (hK : ∀ k, k ∈ refs a → K k) (hpre : ∃ t, Ks = ks' ++ t) (hr : ARel w (Shut X C) C h.nv a u) :
    ARel w (Shut (subX X C Ks lent) (subC C Ks)) (subC C Ks) Ks.length a' u := by
  unfold argT at hc
  split at hc
  · obtain ⟨⟨r1, k2, l2⟩, h3, h4⟩ := map_some hc
    cases h4
    obtain ⟨us, rfl, hs⟩ := hr.inv_agg
    have := argCs_rel pre h3 hl hK hpre hs
    exact .agg _ _ this.1 this.2
  · obtain ⟨⟨r1, k2, l2⟩, h3, h4⟩ := map_some hc
    cases h4
    obtain ⟨us, rfl, hs⟩ := hr.inv_fn
    have := argCs_rel pre h3 hl hK hpre hs
    exact .fn _ _ _ this.1 this.2
  · rename_i ha1 ha2
    have : refs a = refs1 a := by
      cases a <;> first | rfl | (exact absurd rfl (ha1 _)) | (exact absurd rfl (ha2 _ _))
    rw [this] at hK
    exact argC_rel pre hc hl hK hpre hr
theorem argTs_rel {K : Nat → Prop} {xs xs' : List AV} {us : List Value} {ks ks' Ks : List Nat} {l lent : Bool} (pre : ArgPre X w C h K Ks) (hc : argTs h xs ks = some (xs', ks', l)) (hl : l = true → lent = true) (hK : ∀ k, k ∈ xs.flatMap refs → K k) (hpre : ∃ t, Ks = ks' ++ t) (hr : ARels w (Shut X C) C h.nv xs us) :
    ARels w (Shut (subX X C Ks lent) (subC C Ks)) (subC C Ks) Ks.length xs' us := by
  induction xs generalizing xs' us ks ks' l with
  | nil =>
    simp [argTs] at hc
    obtain ⟨rfl, _, _⟩ := hc
    have : us = [] := List.eq_nil_of_length_eq_zero (by rw [← hr.1]; rfl)
    subst this
    exact .nil
  | cons a r ih =>
    simp only [argTs] at hc
    obtain ⟨⟨a1, k1, l1⟩, h1, h2⟩ := bind_some hc
    obtain ⟨⟨r1, k2, l2⟩, h3, h4⟩ := map_some h2
    cases h4
    obtain ⟨u, ur, rfl, h5, h6⟩ := hr.uncons
    obtain ⟨t2, e2⟩ := argTs_mono h3
    obtain ⟨t, e⟩ := hpre
    refine .cons (argT_rel pre h1 (fun hh => hl (by simp [hh])) (fun k hk => hK k (by simp [hk])) ⟨t2 ++ t, by rw [e, e2, List.append_assoc]⟩ h5) (ih h3 (fun hh => hl (by simp [hh])) (fun k hk => hK k (by rw [List.flatMap_cons]; exact List.mem_append_right _ hk)) ⟨t, e⟩ h6)

/-- The boxes that are handed over, one by one. -/
theorem given_get {ks : List Nat} {n : Nat} {objs : List Obj} (hg : given h ks n = some objs) : objs.length = ks.length ∧ ∀ (i k : Nat), ks[i]? = some k → ∃ e v cs, h.objs[k]? = some (.box e v cs) ∧ cs.all isIv = true ∧ objs[i]? = some (.box e (n + i) cs) := by
  induction ks generalizing n objs with
  | nil => simp [given] at hg; subst hg; exact ⟨rfl, fun i k hh => by simp at hh⟩
  | cons k r ih =>
    simp only [given] at hg
    split at hg
    · rename_i e v cs hk
      split at hg
      · rename_i hall
        obtain ⟨rs, h1, rfl⟩ := map_some hg
        obtain ⟨hl, hs⟩ := ih h1
        refine ⟨by simp [hl], fun i q hi => ?_⟩
        cases i with
        | zero =>
          simp only [List.getElem?_cons_zero, Option.some.injEq] at hi
          subst hi
          exact ⟨e, v, cs, hk, hall, rfl⟩
        | succ i =>
          obtain ⟨e1, v1, cs1, a1, a2, a3⟩ := hs i q (by simpa using hi)
          exact ⟨e1, v1, cs1, a1, a2, by rw [List.getElem?_cons_succ, a3]; congr 2; omega⟩
      · simp at hg
    · simp at hg
end
end Go.Om
