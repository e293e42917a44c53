/-
  Om: every instruction but the call of a Go function.
-/
import Derived.Test.YtihhnicfkeiglaaOm13
set_option linter.all false
namespace Go.Om
open Go Go.RowKit

section
variable {hh : Nat} {P : Program} {X : Nat → Prop} {w w' : World} {C C' : Conc} {h h' : Hp} {v : AV} {u : Value} {K mod : List Nat} {ρ : Operand → Value} {e : AEnv} {o : Oper} {S : Nat → Prop} {nv : Nat} {mset eqs : List Nat} {ty : Nat} {i : AI} {xr : Xr} {hd : Hdl}

theorem bind_some {α β : Type} {x : Option α} {f : α → Option β} {b : β} (h : x.bind f = some b) : ∃ a, x = some a ∧ f a = some b := Option.bind_eq_some_iff.1 h
theorem map_some {α β : Type} {x : Option α} {f : α → β} {b : β} (h : x.map f = some b) : ∃ a, x = some a ∧ f a = b := Option.map_eq_some_iff.1 h

def isCall : AI → Bool
  | .call .. => true
  | _ => false

theorem atPtr_of {p : AV} {n : Nat} {r : AV × Hp} : 
    (match p with
     | .ptr k v i j => (cellsAt h k v i).bind fun cs => if j + n ≤ cs.length then some (AV.agg ((cs.drop j).take n), h) else none
     | .iptr cs => if n ≤ cs.length then some (AV.agg ((cs.take n).map .iv), h) else none
     | _ => none) = some r → ∃ cs, AtPtr h p = some cs ∧ n ≤ cs.length ∧ r = (.agg (cs.take n), h) := by
  intro hq
  split at hq
  · rename_i k v i j
    obtain ⟨ds, h1, h2⟩ := bind_some hq
    split at h2
    · rename_i hle
      cases h2
      exact ⟨ds.drop j, by simp [AtPtr, h1], by simp; omega, rfl⟩
    · simp at h2
  · rename_i ds
    split at hq
    · rename_i hle
      cases hq
      exact ⟨ds.map .iv, rfl, by simpa using hle, by rw [List.map_take]⟩
    · simp at hq
  · simp at hq
theorem atPtr_of1 {p : AV} {r : AV × Hp} : 
    (match p with
     | .ptr k v i j => (cellsAt h k v i).bind fun cs => (cs[j]?).map fun x => (x, h)
     | .iptr cs => (cs[0]?).map fun x => (AV.iv x, h)
     | _ => none) = some r → ∃ cs z, AtPtr h p = some cs ∧ cs[0]? = some z ∧ r = (z, h) := by
  intro hq
  split at hq
  · rename_i k v i j
    obtain ⟨ds, h1, h2⟩ := bind_some hq
    obtain ⟨z, h3, h4⟩ := map_some h2
    exact ⟨ds.drop j, z, by simp [AtPtr, h1], by rw [List.getElem?_drop]; simpa using h3, h4.symm⟩
  · rename_i ds
    obtain ⟨z, h3, h4⟩ := map_some hq
    exact ⟨ds.map .iv, .iv z, rfl, by rw [List.getElem?_map, h3]; rfl, h4.symm⟩
  · simp at hq

theorem astep_sound (hE : ∀ t, t ∈ eqs → EqOk P t) (hc : compIns P mset eqs o.op ty = some i) (hnc : ∀ (c : Call) (f : Operand), o.op = .call c → c.callee ≠ .value f) (ha : astep xr hd i e h = some (v, h')) (hρ : Opds X ρ w C h i e) (pre : Pre X w C h (foot i e) h'.objs.length) :
    Concl P X ρ o w C h i e v h' := by
  cases hop : o.op <;> rw [hop] at hc <;> simp only [compIns] at hc
  case move x =>
    obtain ⟨y, hy, rfl⟩ := map_some hc
    simp only [astep, Option.some.injEq, Prod.mk.injEq] at ha
    obtain ⟨rfl, rfl⟩ := ha
    exact sound_mov (by simp [execOp, hop]) hy hρ
  case assign x =>
    obtain ⟨y, hy, rfl⟩ := map_some hc
    simp only [astep, Option.some.injEq, Prod.mk.injEq] at ha
    obtain ⟨rfl, rfl⟩ := ha
    exact sound_mov (by simp [execOp, hop]) hy hρ
  case pick c a b =>
    obtain ⟨c', h1, hc⟩ := bind_some hc
    obtain ⟨a', h2, hc⟩ := bind_some hc
    obtain ⟨b', h3, rfl⟩ := map_some hc
    simp only [astep] at ha
    split at ha
    · rename_i t ht
      simp only [Option.some.injEq, Prod.mk.injEq] at ha
      obtain ⟨rfl, rfl⟩ := ha
      exact sound_pick hop h1 h2 h3 ht hρ
    · simp at ha
  case box t x =>
    obtain ⟨y, hy, rfl⟩ := map_some hc
    simp only [astep] at ha
    split at ha
    · rename_i cs hcs
      simp only [Option.some.injEq, Prod.mk.injEq] at ha
      obtain ⟨rfl, rfl⟩ := ha
      exact sound_box hop hy hcs hρ (by simpa using pre)
    · simp at ha
  case alloc t =>
    obtain ⟨z, hz, rfl⟩ := map_some hc
    simp only [astep, Option.some.injEq, Prod.mk.injEq] at ha
    obtain ⟨rfl, rfl⟩ := ha
    unfold tzero at hz
    obtain ⟨ti, hi, hz⟩ := bind_some hz
    obtain ⟨zv, hzv, rfl⟩ := map_some hz
    exact sound_zbox hop hi hzv (by simpa using pre)
  case load t p =>
    obtain ⟨g, hg, hc⟩ := bind_some hc
    obtain ⟨y, hy, hc⟩ := bind_some hc
    cases g with
    | true =>
      simp only [if_true] at hc
      obtain ⟨n, hn, rfl⟩ := map_some hc
      simp only [astep] at ha
      obtain ⟨cs, h1, h2, h3⟩ := atPtr_of ha
      cases h3
      exact sound_ldA hop hg hn hy h1 h2 hρ pre
    | false =>
      simp only [Bool.false_eq_true, if_false, Option.some.injEq] at hc
      subst hc
      simp only [astep] at ha
      obtain ⟨cs, z, h1, h2, h3⟩ := atPtr_of1 ha
      cases h3
      exact sound_ld1 hop hg hy h1 h2 hρ pre
  case store t p x =>
    obtain ⟨n, hn, hc⟩ := bind_some hc
    obtain ⟨p', hp, hc⟩ := bind_some hc
    obtain ⟨x', hx, rfl⟩ := map_some hc
    simp only [astep] at ha
    split at ha
    · rename_i k ver i j hpe
      obtain ⟨cs, hcs, ha2⟩ := bind_some ha
      clear ha; have ha := ha2; clear ha2
      split at ha
      · rename_i hl
        split at ha
        · rename_i bt v' old hk
          split at ha
          · rename_i hv
            subst hv
            split at ha
            · rename_i hi
              subst hi
              split at ha
              · rename_i hle
                cases ha
                exact sound_st_box hop hn hp hx hpe hcs hl hk hle hρ (by simpa using pre)
              · simp at ha
            · simp at ha
          · simp at ha
        · rename_i el sz v' es hk
          split at ha
          · rename_i hv
            subst hv
            obtain ⟨y, hy, ha2⟩ := bind_some ha
            clear ha; have ha := ha2; clear ha2
            split at ha
            · rename_i old hold
              split at ha
              · rename_i hle
                cases ha
                exact sound_st_row hop hn hp hx hpe hcs hl hk hy hold hle hρ (by simpa using pre)
              · simp at ha
            · simp at ha
          · simp at ha
        · simp at ha
      · simp at ha
    · simp at ha
  case fieldAddr s p f =>
    split at hc
    · rename_i fs hs
      split at hc
      · rename_i fd hf
        obtain ⟨n, hn, hc⟩ := bind_some hc
        split at hc
        · simp at hc
        · rename_i hn0
          obtain ⟨y, hy, rfl⟩ := map_some hc
          simp only [astep] at ha
          split at ha
          · rename_i k v' i j hpe
            cases ha
            exact sound_fadr hop hs hf hn hn0 hy (.inl ⟨_, _, _, _, hpe, rfl⟩) hρ
          · rename_i cs hpe
            cases ha
            exact sound_fadr hop hs hf hn hn0 hy (.inr ⟨_, hpe, rfl⟩) hρ
          · simp at ha
      · simp at hc
    · simp at hc
  case field t x f =>
    split at hc
    · rename_i fs hs
      split at hc
      · rename_i fd hf
        obtain ⟨g, hg, hc⟩ := bind_some hc
        obtain ⟨n, hn, hc⟩ := bind_some hc
        obtain ⟨y, hy, rfl⟩ := map_some hc
        simp only [astep] at ha
        split at ha
        · rename_i cs hxe
          cases g with
          | true =>
            simp only [if_true] at ha
            split at ha
            · rename_i hle
              cases ha
              exact sound_fld hop hs hf hg hn hy hxe (by simp [hle]) hρ
            · simp at ha
          | false =>
            simp only [Bool.false_eq_true, if_false] at ha
            obtain ⟨z, hz, hzz⟩ := map_some ha
            cases hzz
            exact sound_fld hop hs hf hg hn hy hxe (by simpa using hz) hρ
        · simp at ha
      · simp at hc
    · simp at hc
  case indexAddr t x ix =>
    obtain ⟨x', hx, hc⟩ := bind_some hc
    obtain ⟨ix', hix, hc⟩ := bind_some hc
    split at hc
    · rename_i len el ht
      obtain ⟨n, hn, rfl⟩ := map_some hc
      simp only [astep] at ha
      split at ha
      · rename_i q hq
        split at ha
        · rename_i hb
          split at ha
          · rename_i k v' i j hpe
            cases ha
            exact sound_iadrA hop ht hn hx hix hq hb.1 hb.2 (.inl ⟨_, _, _, _, hpe, rfl⟩) hρ
          · rename_i cs hpe
            cases ha
            exact sound_iadrA hop ht hn hx hix hq hb.1 hb.2 (.inr ⟨_, hpe, rfl⟩) hρ
          · simp at ha
        · simp at ha
      · simp at ha
    · rename_i el ht
      obtain ⟨n, hn, rfl⟩ := map_some hc
      simp only [astep] at ha
      split at ha
      · rename_i q hq
        split at ha
        · rename_i h0
          split at ha
          · rename_i es hxe
            obtain ⟨d, hd1, ha2⟩ := bind_some ha
            clear ha; have ha := ha2; clear ha2
            split at ha
            · rename_i hdl
              cases ha
              exact sound_iadrS hop ht hn hx hix hq h0 (.inl ⟨_, _, hxe, hd1, hdl, rfl⟩) hρ pre
            · simp at ha
          · rename_i k v' hxe
            obtain ⟨r, hr, ha2⟩ := bind_some ha
            clear ha; have ha := ha2; clear ha2
            obtain ⟨t', sz, es⟩ := r
            split at ha
            · rename_i hsz
              simp only at hsz
              subst hsz
              split at ha
              · rename_i hlt
                cases ha
                exact sound_iadrS hop ht hn hx hix hq h0 (.inr (.inl ⟨_, _, _, _, hxe, hr, hlt, rfl⟩)) hρ pre
              · simp at ha
            · simp at ha
          · rename_i k v' off len hxe
            obtain ⟨r, hr, ha2⟩ := bind_some ha
            clear ha; have ha := ha2; clear ha2
            obtain ⟨t', sz, es⟩ := r
            split at ha
            · rename_i hsz
              simp only at hsz
              subst hsz
              split at ha
              · rename_i hlt
                cases ha
                exact sound_iadrS hop ht hn hx hix hq h0 (.inr (.inr ⟨_, _, _, _, _, _, hxe, hr, hlt.1, hlt.2, rfl⟩)) hρ pre
              · simp at ha
            · simp at ha
          · simp at ha
        · simp at ha
      · simp at ha
    · simp at hc
  case index t x ix =>
    obtain ⟨x', hx, hc⟩ := bind_some hc
    obtain ⟨ix', hix, hc⟩ := bind_some hc
    split at hc
    · rename_i len el ht
      obtain ⟨g, hg, hc⟩ := bind_some hc
      obtain ⟨n, hn, rfl⟩ := map_some hc
      simp only [astep] at ha
      split at ha
      · rename_i q hq
        split at ha
        · rename_i hb
          split at ha
          · rename_i cs hxe
            cases g with
            | true =>
              simp only [if_true] at ha
              split at ha
              · rename_i hle
                cases ha
                exact sound_idxA hop ht hg hn hx hix hq hb.1 hb.2 hxe (by simp [hle]) hρ
              · simp at ha
            | false =>
              simp only [Bool.false_eq_true, if_false] at ha
              obtain ⟨z, hz, hzz⟩ := map_some ha
              cases hzz
              exact sound_idxA hop ht hg hn hx hix hq hb.1 hb.2 hxe (by simpa using hz) hρ
          · simp at ha
        · simp at ha
      · simp at ha
    · rename_i ht
      simp only [Option.some.injEq] at hc
      subst hc
      simp only [astep] at ha
      split at ha
      · rename_i q hq
        split at ha
        · rename_i h0
          split at ha
          · rename_i s hxe
            obtain ⟨c, hcc, hzz⟩ := map_some ha
            cases hzz
            exact sound_idxStr hop ht hx hix hq h0 hxe hcc hρ
          · simp at ha
        · simp at ha
      · simp at ha
    · simp at hc
  case slice t x lo hi mx =>
    cases mx with
    | some m => simp at hc
    | none =>
      simp only at hc
      obtain ⟨x', hx, hc2⟩ := bind_some hc
      obtain ⟨lo', hlo, hc3⟩ := bind_some hc2
      obtain ⟨hi', hhi, hc4⟩ := bind_some hc3
      clear hc hc2 hc3
      have blo : BndC lo lo' := by
        cases lo with
        | none => simp at hlo; subst hlo; trivial
        | some l => simp only at hlo; obtain ⟨z, hz, rfl⟩ := map_some hlo; exact hz
      have bhi : BndC hi hi' := by
        cases hi with
        | none => simp at hhi; subst hhi; trivial
        | some l => simp only at hhi; obtain ⟨z, hz, rfl⟩ := map_some hhi; exact hz
      split at hc4
      · rename_i ht
        simp only [Option.some.injEq] at hc4
        subst hc4
        simp only [astep] at ha
        split at ha
        · rename_i s hxe
          obtain ⟨l, hl, ha2⟩ := bind_some ha
          obtain ⟨r, hr, ha3⟩ := bind_some ha2
          clear ha ha2
          split at ha3
          · rename_i hb
            cases ha3
            exact sound_slcStr hop ht hx blo bhi hxe hl hr hb.1 hb.2 hρ
          · simp at ha3
        · simp at ha
      · rename_i el ht
        obtain ⟨n, hn, rfl⟩ := map_some hc4
        simp only [astep] at ha
        split at ha
        · rename_i es hxe
          split at ha
          · rename_i hall
            obtain ⟨l, hl, ha2⟩ := bind_some ha
            obtain ⟨r, hr, ha3⟩ := bind_some ha2
            clear ha ha2
            split at ha3
            · rename_i hb
              cases ha3
              exact sound_slcS hop ht hn hx blo bhi hl hb.1 (.inl ⟨_, hxe, hr, hb.2, rfl, all_len hall⟩) hρ pre
            · simp at ha3
          · simp at ha
        · rename_i k ver hxe
          obtain ⟨row, hrow, ha1⟩ := bind_some ha
          obtain ⟨t', sz, es⟩ := row
          simp only at ha1
          split at ha1
          · rename_i hsz
            subst hsz
            obtain ⟨l, hl, ha2⟩ := bind_some ha1
            obtain ⟨r, hr, ha3⟩ := bind_some ha2
            clear ha ha1 ha2
            split at ha3
            · rename_i hb
              cases ha3
              exact sound_slcS hop ht hn hx blo bhi hl hb.1 (.inr (.inl ⟨_, _, _, _, hxe, hrow, hr, hb.2, rfl⟩)) hρ pre
            · simp at ha3
          · simp at ha1
        · rename_i k ver off len hxe
          obtain ⟨row, hrow, ha1⟩ := bind_some ha
          obtain ⟨t', sz, es⟩ := row
          simp only at ha1
          split at ha1
          · rename_i hsz
            subst hsz
            obtain ⟨l, hl, ha2⟩ := bind_some ha1
            obtain ⟨r, hr, ha3⟩ := bind_some ha2
            clear ha ha1 ha2
            split at ha3
            · rename_i hb
              cases ha3
              exact sound_slcS hop ht hn hx blo bhi hl hb.1 (.inr (.inr ⟨_, _, _, _, _, _, hxe, hrow, hr, hb.2, rfl⟩)) hρ pre
            · simp at ha3
          · simp at ha1
        · simp at ha
      · simp at hc4
  case binOp op t x y t2 =>
    obtain ⟨x', hx, hc2⟩ := bind_some hc
    obtain ⟨y', hy, hc3⟩ := bind_some hc2
    clear hc hc2
    have bin : i = .bin op x' y' → Concl P X ρ o w C h i e v h' := by
      rintro rfl
      simp only [astep] at ha
      split at ha
      · rename_i a b hxa hyb
        obtain ⟨r, hr, hz⟩ := map_some ha
        cases hz
        exact sound_bin hop hx hy hxa hyb hr hρ
      · simp at ha
    have aeq : (if eqs.contains t then (match op with | .eql => some (AI.aeq t false x' y') | .neq => some (AI.aeq t true x' y') | _ => none) else none) = some i → Concl P X ρ o w C h i e v h' := by
      intro hq
      split at hq
      · rename_i hcon
        have hmem : t ∈ eqs := by simpa using hcon
        split at hq
        · simp only [Option.some.injEq] at hq
          subst hq
          simp only [astep] at ha
          split at ha
          · rename_i a b hxa hyb
            obtain ⟨r, hr, hz⟩ := map_some ha
            cases hz
            exact sound_aeq (hE t hmem) hop (.inl ⟨rfl, rfl⟩) hx hy hxa hyb hr hρ
          · simp at ha
        · simp only [Option.some.injEq] at hq
          subst hq
          simp only [astep] at ha
          split at ha
          · rename_i a b hxa hyb
            obtain ⟨r, hr, hz⟩ := map_some ha
            cases hz
            exact sound_aeq (hE t hmem) hop (.inr ⟨rfl, rfl⟩) hx hy hxa hyb hr hρ
          · simp at ha
        · simp at hq
      · simp at hq
    split at hc3
    · simp only [Option.some.injEq] at hc3; exact bin hc3.symm
    · simp only [Option.some.injEq] at hc3; exact bin hc3.symm
    · rename_i ht
      simp only [Option.some.injEq] at hc3
      subst hc3
      simp only [astep] at ha
      split at ha
      · rename_i p q hxa hyb
        cases ha
        exact sound_binB hop ht hx hy hxa hyb (.inl ⟨rfl, rfl⟩) hρ
      · rename_i p q hxa hyb
        cases ha
        exact sound_binB hop ht hx hy hxa hyb (.inr ⟨rfl, rfl⟩) hρ
      · simp at ha
    · exact aeq hc3
    · exact aeq hc3
    · simp at hc3
  case unOp op t x =>
    obtain ⟨x', hx, rfl⟩ := map_some hc
    simp only [astep] at ha
    split at ha
    · rename_i p hxe
      cases ha
      exact sound_una hop hx (.inl ⟨_, rfl, hxe, rfl⟩) hρ
    · rename_i k n hxe
      cases ha
      exact sound_una hop hx (.inr ⟨_, _, rfl, hxe, rfl⟩) hρ
    · simp at ha
  case convert s d x =>
    obtain ⟨x', hx, hc2⟩ := bind_some hc
    clear hc
    split at hc2
    · rename_i k1 k hs hd
      simp only [Option.some.injEq] at hc2
      subst hc2
      simp only [astep] at ha
      split at ha
      · rename_i k2 n hxe
        cases ha
        exact sound_cvtI hop hs hd hx hxe hρ
      · simp at ha
    · rename_i el hs hd
      split at hc2
      · rename_i hel
        simp only [Option.some.injEq] at hc2
        subst hc2
        simp only [astep] at ha
        obtain ⟨es, hes, ha2⟩ := bind_some ha
        obtain ⟨l, hl, hz⟩ := map_some ha2
        cases hz
        exact sound_cvtBS hop hs hel hd hx hes hl hρ pre
      · simp at hc2
    · rename_i el hs hd
      split at hc2
      · rename_i hel
        simp only [Option.some.injEq] at hc2
        subst hc2
        simp only [astep] at ha
        split at ha
        · rename_i s hxe
          split at ha
          · rename_i hle
            cases ha
            exact sound_cvtSB hop hs hd hel hx hxe hle.1 hle.2 hρ (by simpa using pre)
          · simp at ha
        · simp at ha
      · simp at hc2
    · simp at hc2
  case build t parts =>
    split at hc
    · rename_i fs ht
      obtain ⟨pl, hpl, hc2⟩ := bind_some hc
      obtain ⟨ps, hps, hc3⟩ := bind_some hc2
      obtain ⟨z, hz, rfl⟩ := map_some hc3
      simp only [astep] at ha
      obtain ⟨cs, hcs, hzz⟩ := map_some ha
      cases hzz
      exact sound_build hop ht hpl hps hz hcs hρ
    · rename_i len el ht
      obtain ⟨n, hn, hc2⟩ := bind_some hc
      obtain ⟨ps, hps, hc3⟩ := bind_some hc2
      obtain ⟨z, hz, rfl⟩ := map_some hc3
      simp only [astep] at ha
      obtain ⟨cs, hcs, hzz⟩ := map_some ha
      cases hzz
      exact sound_buildA hop ht hn hps hz hcs hρ
    · simp at hc
  case buildSlice t len parts =>
    split at hc
    · rename_i el ht
      obtain ⟨n, hn, hc2⟩ := bind_some hc
      split at hc2
      · simp at hc2
      · rename_i hn0
        obtain ⟨z, hz, hc3⟩ := bind_some hc2
        split at hc3
        · rename_i hzl
          obtain ⟨ps, hps, rfl⟩ := map_some hc3
          simp only [astep] at ha
          split at ha
          · rename_i hle
            obtain ⟨ys, hys, ha2⟩ := bind_some ha
            obtain ⟨es, hes, hzz⟩ := map_some ha2
            cases hzz
            exact sound_bslice hop ht hn hn0 hz hzl hps hle.1 hle.2 hys hes hρ (by simpa using pre)
          · simp at ha
        · simp at hc3
    · simp at hc
  case makeSlice t l c =>
    split at hc
    · rename_i el ht
      obtain ⟨n, hn, hc2⟩ := bind_some hc
      obtain ⟨b, hb, hc3⟩ := bind_some hc2
      split at hc3
      · simp at hc3
      · rename_i hnb
        obtain ⟨z, hz, hc4⟩ := bind_some hc3
        split at hc4
        · rename_i hzl
          obtain ⟨l', hl, rfl⟩ := map_some hc4
          simp only [astep] at ha
          split at ha
          · rename_i q hq
            split at ha
            · rename_i hle
              cases ha
              exact sound_mslice hop ht hn hb (by omega) (by omega) hz hzl.1 hzl.2 hl hq hle.1 hle.2.1 hle.2.2 hρ (by simpa using pre)
            · simp at ha
          · simp at ha
        · simp at hc4
    · simp at hc
  case makeFunc fn first caps =>
    cases fn <;> simp only at hc <;> try (simp at hc; done)
    split at hc
    · rename_i hf
      obtain ⟨cs, hcs, rfl⟩ := map_some hc
      simp only [astep, Option.some.injEq, Prod.mk.injEq] at ha
      obtain ⟨rfl, rfl⟩ := ha
      exact sound_mfn hop hf hcs hρ
    · simp at hc
  case extract x n =>
    obtain ⟨x', hx, rfl⟩ := map_some hc
    simp only [astep] at ha
    split at ha
    · rename_i vs hxe
      obtain ⟨z, hz, hzz⟩ := map_some ha
      cases hzz
      exact sound_ext hop hx hxe hz hρ
    · simp at ha
  case nilCheck x =>
    obtain ⟨x', hx, rfl⟩ := map_some hc
    simp only [astep] at ha
    have hv : ((∃ k a i j, x'.ev e = .ptr k a i j) ∨ (∃ cs, x'.ev e = .iptr cs) ∨ (∃ f cs, x'.ev e = .fn f cs)) ∧ v = x'.ev e ∧ h' = h := by
      split at ha
      · rename_i k a i j hxe
        cases ha
        exact ⟨.inl ⟨_, _, _, _, hxe⟩, hxe.symm, rfl⟩
      · rename_i cs hxe
        cases ha
        exact ⟨.inr (.inl ⟨_, hxe⟩), hxe.symm, rfl⟩
      · rename_i f cs hxe
        cases ha
        exact ⟨.inr (.inr ⟨_, _, hxe⟩), hxe.symm, rfl⟩
      · simp at ha
    obtain ⟨h1, rfl, rfl⟩ := hv
    exact sound_nilck hop hx h1 hρ
  case call c =>
    split at hc
    · rename_i f hf
      obtain ⟨f', hf', hc2⟩ := bind_some hc
      obtain ⟨xs, hxs, rfl⟩ := map_some hc2
      exact absurd hf (hnc _ _ hop)
    · simp at hc
    · rename_i b hb
      split at hc
      · rename_i t x hat har
        split at hc
        · rename_i ht
          obtain ⟨x', hx, rfl⟩ := map_some hc
          simp only [astep] at ha
          split at ha
          · rename_i s hxe
            cases ha
            exact sound_lenStr hop hb hat har ht hx hxe hρ
          · simp at ha
        · rename_i el ht
          obtain ⟨x', hx, rfl⟩ := map_some hc
          simp only [astep] at ha
          obtain ⟨es, hes, hz⟩ := map_some ha
          cases hz
          exact sound_len hop hb hat har ht hx hes hρ pre
        · rename_i n el ht
          simp only [Option.some.injEq] at hc
          subst hc
          simp only [astep, Option.some.injEq, Prod.mk.injEq] at ha
          obtain ⟨rfl, rfl⟩ := ha
          exact sound_lenA hop hb hat har ht
        · simp at hc
      · rename_i t u s x hat har
        split at hc
        · rename_i el ht
          obtain ⟨n, hn, hc2⟩ := bind_some hc
          obtain ⟨bts, hbts, hc3⟩ := bind_some hc2
          split at hc3
          · simp at hc3
          · rename_i hnb
            obtain ⟨s', hs, hc4⟩ := bind_some hc3
            obtain ⟨x', hx, hc5⟩ := bind_some hc4
            obtain ⟨z, hz, hc6⟩ := bind_some hc5
            split at hc6
            · rename_i hzl
              split at hc6
              · rename_i htx
                simp only [Option.some.injEq] at hc6
                subst hc6
                simp only [astep] at ha
                split at ha
                · rename_i q k ver hq hse
                  obtain ⟨row, hrow, ha2⟩ := bind_some ha
                  obtain ⟨t', sz, es⟩ := row
                  simp only at ha2
                  split at ha2
                  · rename_i hcnd
                    obtain ⟨h0, e1, e2⟩ := hcnd
                    subst e1
                    subst e2
                    split at ha2
                    · rename_i hle
                      cases ha2
                      exact sound_appz hop hb hat har ht htx hn hbts (by omega) (by omega) hz hzl hs hx hq h0 hse hrow hle.1 hle.2 hρ (by simpa using pre)
                    · simp at ha2
                  · simp at ha2
                · simp at ha
              · rename_i el' htx
                split at hc6
                · simp only [Option.some.injEq] at hc6
                  subst hc6
                  simp only [astep] at ha
                  obtain ⟨news, hnews, ha2⟩ := bind_some ha
                  split at ha2
                  · rename_i hall
                    exact sound_app hop hb hat har ht htx hn hbts (by omega) (by omega) hz hzl hs hx hnews hall ha2 hρ pre
                  · simp at ha2
                · simp at hc6
              · rename_i htx
                split at hc6
                · rename_i hel
                  split at hc6
                  · rename_i hn1
                    subst hn1
                    simp only [Option.some.injEq] at hc6
                    subst hc6
                    simp only [astep] at ha
                    split at ha
                    · rename_i q hq
                      exact sound_appS hop hb hat har ht htx hn hbts (by omega) hz hzl hs hx hq ha hρ pre
                    · simp at ha
                  · simp at hc6
                · simp at hc6
              · simp at hc6
            · simp at hc6
        · simp at hc
      · rename_i t r xs hat har
        split at hc
        · obtain ⟨ys, hys, rfl⟩ := map_some hc
          simp only [astep] at ha
          split at ha
          · rename_i y yr
            obtain ⟨z, hz, hzz⟩ := map_some ha
            cases hzz
            exact sound_mnx (mx := false) hop hb rfl hys hz hρ
          · simp at ha
        · simp at hc
      · rename_i t r xs hat har
        split at hc
        · obtain ⟨ys, hys, rfl⟩ := map_some hc
          simp only [astep] at ha
          split at ha
          · rename_i y yr
            obtain ⟨z, hz, hzz⟩ := map_some ha
            cases hzz
            exact sound_mnx (mx := true) hop hb rfl hys hz hρ
          · simp at ha
        · simp at hc
      · simp at hc
  all_goals first | (simp at hc; done) | (split at hc <;> simp at hc; done)
end
end Go.Om
