/-
  Om: every instruction, and a region whose order is the text's.
-/
import Derived.Test.YtihhnicfkeiglaaOm17
set_option linter.all false
namespace Go.Om
open Go Go.RowKit

/-- What a contract from outside is to hold. -/
def XrOk (P : Program) (xr : Xr) : Prop := ∀ (g : Nat) (all : List AV) (h : Hp) (v : AV) (h' : Hp), xr g all h = some (v, h') →
  h.objs.length ≤ h'.objs.length ∧ (∀ k, k < h.objs.length → k ∉ all.flatMap refs → h'.objs[k]? = h.objs[k]?) ∧ Go.Proofs.Enters P g ∧
  ∀ (X : Nat → Prop) (w : World) (C : Conc) (us : List Value), ARels w (Shut X C) C h.nv all us → Pre X w C h (all.flatMap refs) h'.objs.length →
    Calls P g us.toArray w fun en w' => ∃ u C', en = .returned u ∧ Res X w C h (all.flatMap refs) v h' u w' C'

section
variable {P : Program} {X : Nat → Prop} {w w' w'' : World} {C C' C'' : Conc} {h h' : Hp} {v : AV} {u : Value} {K mod : List Nat} {ρ : Operand → Value} {e : AEnv} {o : Oper} {mset eqs : List Nat} {ty : Nat} {i : AI} {xr : Xr} {hd : Hdl}

theorem opds_rel {i : AI} : ∀ {xs : List Operand} {ys : List Opd}, cOpds xs = some ys → (∀ y ∈ ys, y ∈ i.opds) → Opds X ρ w C h i e → ARels w (Shut X C) C h.nv (ys.map (·.ev e)) (xs.map ρ)
  | [], ys, hc, _, _ => by simp [cOpds] at hc; subst hc; exact .nil
  | x :: r, ys, hc, hm, hρ => by
    simp only [cOpds] at hc
    obtain ⟨a, h1, h2⟩ := bind_some hc
    obtain ⟨as', h3, rfl⟩ := map_some h2
    exact .cons (hρ x a h1 (hm a (by simp))) (opds_rel h3 (fun y hy => hm y (by simp [hy])) hρ)

/-- What a step of one operation comes to. -/
def Does (P : Program) (o : Oper) (a : Act) (w : World) (R : Value → World → Prop) : Prop :=
  ∀ (next : Act → World → Prop) (Q : Exit → Act → World → Prop), (∀ u w', R u w' → next (a.put o.dst u) w') → o.wp P a w next Q

theorem does_runs {a : Act} {R : Value → World → Prop} (h : Runs P a.eval o w u w') (hR : R u w') : Does P o a w R := by
  intro next Q hn
  unfold Oper.wp
  rcases h with h | ⟨h, rfl⟩ <;> rw [h]
  · exact hn _ _ hR
  · exact hn _ _ hR

theorem pre_mono {K K' : List Nat} {hi : Nat} (p : Pre X w C h K hi) (hK : ∀ k ∈ K', k ∈ K) : Pre X w C h K' hi := ⟨fun k o hk ho => p.ok k o (hK k hk) ho, p.dist, p.lt, p.free, p.xlt⟩
theorem pre_lo {K : List Nat} {hi hi' : Nat} (p : Pre X w C h K hi) (hh : hi' ≤ hi) : Pre X w C h K hi' := ⟨p.ok, p.dist, p.lt, fun k h1 h2 => p.free k h1 (by omega), p.xlt⟩

theorem callV_sound {m : Bool} {f : AV} {vs : List AV} {us : List Value} {uf : Value} (hX : XrOk P xr) (hH : HdOk P hd) (hc : callV xr hd m f vs h = some (v, h')) (hf : ARel w (Shut X C) C h.nv f uf) (hvs : ARels w (Shut X C) C h.nv vs us)
    (pre : Pre X w C h (refs f ++ vs.flatMap refs) h'.objs.length) : ∃ g caps, uf = .func (.func g) #[] caps ∧ Go.Proofs.Enters P g ∧
      Calls P g (us.toArray ++ caps) w fun en w' => ∃ u C', en = .returned u ∧ Res X w C h (if m then refs f ++ vs.flatMap refs else []) v h' u w' C' := by
  unfold callV at hc
  split at hc
  · rename_i g caps
    obtain ⟨cs, rfl, hcs⟩ := hf.inv_fn
    split at hc
    · rename_i hcap
      have hall := hvs.append hcs
      have hrefs : ∀ k, k ∈ (vs ++ caps).flatMap refs → k ∈ refs (.fn g caps) ++ vs.flatMap refs := by
        intro k hk
        rw [List.flatMap_append] at hk
        rcases List.mem_append.1 hk with hk | hk
        · exact List.mem_append_right _ hk
        · refine List.mem_append_left _ ?_
          obtain ⟨c, hc1, hc2⟩ := List.mem_flatMap.1 hk
          refine List.mem_flatMap.2 ⟨c, hc1, ?_⟩
          have := List.all_eq_true.1 hcap c hc1
          cases c <;> simp [capOk] at this <;> simpa [refs] using hc2
      have pre2 := pre_mono pre hrefs
      have viaR : viaHd hd g (vs ++ caps) h = some (v, h') → (m = false → ∃ as' l, argTs h (vs ++ caps) [] = some (as', [], l)) → Go.Proofs.Enters P g ∧ Calls P g (us ++ cs).toArray w fun en w' => ∃ u C', en = .returned u ∧ Res X w C h (if m then refs (.fn g caps) ++ vs.flatMap refs else []) v h' u w' C' := by
        intro hv hks
        obtain ⟨ks, h1, _, ⟨as', l, h2⟩, h3, h4⟩ := via_sound (X := X) (w := w) (C := C) hH hv hall pre2.ok pre2.dist pre2.lt pre2.xlt pre2.free
        refine ⟨h3, h4.mono fun en w' hen => ?_⟩
        obtain ⟨u, C', rfl, R⟩ := hen
        refine ⟨u, C', rfl, ?_⟩
        cases m with
        | true => exact R.more (K := refs (.fn g caps) ++ vs.flatMap refs) pre (fun k hk => hrefs k (h1 k hk)) (fun k hk => hk)
        | false =>
          obtain ⟨as2, l2, h5⟩ := hks rfl
          rw [h2] at h5
          simp only [Option.some.injEq, Prod.mk.injEq] at h5
          obtain ⟨_, rfl, _⟩ := h5
          exact R
      refine ⟨g, cs.toArray, rfl, ?_⟩
      have e1 : us.toArray ++ cs.toArray = (us ++ cs).toArray := by simp
      rw [e1]
      split at hc
      · rename_i hm
        subst hm
        split at hc
        · rename_i r hr
          cases hc
          obtain ⟨_, _, h3, h4⟩ := hX _ _ _ _ _ hr
          refine ⟨h3, (h4 X w C _ hall pre2).mono fun en w' hen => ?_⟩
          obtain ⟨u, C', rfl, R⟩ := hen
          exact ⟨u, C', rfl, R.more (K := refs (.fn g caps) ++ vs.flatMap refs) pre hrefs (fun k hk => hk)⟩
        · exact viaR hc (by simp)
      · rename_i hm
        obtain ⟨⟨as', ks, l⟩, h1, h2⟩ := bind_some hc
        simp only at h2
        split at h2
        · rename_i hks
          subst hks
          exact viaR h2 fun _ => ⟨as', l, h1⟩
        · simp at h2
    · simp at hc
  · simp at hc

theorem call_does {a : Act} {c : Call} {f : Operand} {f' : Opd} {xs : List Opd} {m : Bool} (hX : XrOk P xr) (hH : HdOk P hd) (hop : o.op = .call c) (hf : c.callee = .value f) (hf' : cOpd f = some f') (hxs : cOpds c.args.toList = some xs)
    (ha : astep xr hd (.call m f' xs) e h = some (v, h')) (hρ : Opds X a.eval w C h (.call m f' xs) e) (pre : Pre X w C h (foot (.call m f' xs) e) h'.objs.length) :
    Does P o a w fun u w' => ∃ C', Res X w C h (modOf (.call m f' xs) e) v h' u w' C' := by
  simp only [astep] at ha
  have h1 := hρ f f' hf' (by simp [AI.opds])
  have h2 := opds_rel (X := X) hxs (fun y hy => by simp [AI.opds, hy]) hρ
  have hfoot : foot (.call m f' xs) e = refs (f'.ev e) ++ (xs.map (·.ev e)).flatMap refs := by
    unfold foot
    rw [if_neg (by simp only [AI.cls]; split <;> simp)]
    simp [AI.opds, List.flatMap_map]
  rw [hfoot] at pre
  obtain ⟨g, caps, hu, hent, hcalls⟩ := callV_sound (X := X) hX hH ha h1 h2 pre
  intro next Q hn
  unfold Oper.wp
  have hex : (execOp a.eval o).run P w = .ok (.enter g ((c.args.toList.map a.eval).toArray ++ caps)) w := by
    have hq := hent ((c.args.toList.map a.eval).toArray ++ caps) w
    have hmap : c.args.map a.eval = (c.args.toList.map a.eval).toArray := by
      rw [← List.map_toArray]
    simp only [execOp, hop, resolve, hf, hu, Deferred.ofValue]
    rw [hmap]
    simpa [invoke] using hq
  rw [hex, Oper.upon_enter]
  refine hcalls.mono fun en w' hen => ?_
  obtain ⟨u, C', rfl, R⟩ := hen
  refine hn u w' ⟨C', ?_⟩
  unfold modOf
  rw [hfoot]
  simp only [AI.cls]
  cases m <;> simpa using R

/-- Every instruction: what the step comes to. -/
theorem op_sound {a : Act} (hX : XrOk P xr) (hH : HdOk P hd) (hE : ∀ t, t ∈ eqs → EqOk P t) (hc : compIns P mset eqs o.op o.type = some i) (ha : astep xr hd i e h = some (v, h')) (hρ : Opds X a.eval w C h i e) (pre : Pre X w C h (foot i e) h'.objs.length) :
    Does P o a w fun u w' => ∃ C', Res X w C h (modOf i e) v h' u w' C' := by
  by_cases hcall : ∃ (c : Call) (f : Operand), o.op = .call c ∧ c.callee = .value f
  · obtain ⟨c, f, hop, hf⟩ := hcall
    rw [hop] at hc
    simp only [compIns, hf] at hc
    obtain ⟨f', hf', hc2⟩ := bind_some hc
    obtain ⟨xs, hxs, rfl⟩ := map_some hc2
    exact call_does hX hH hop hf hf' hxs ha hρ pre
  · obtain ⟨u, w', C', h1, h2⟩ := astep_sound (xr := xr) (hd := hd) hE hc (fun c f h1 h2 => hcall ⟨c, f, h1, h2⟩) ha hρ pre
    exact does_runs h1 ⟨C', h2⟩
end
end Go.Om
