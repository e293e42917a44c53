/-
  Om: code, and the calls of functions: the interpreter is sound.
-/
import Derived.Test.YtihhnicfkeiglaaOm26
import Derived.Scope
import Derived.LoopN
set_option linter.all false
namespace Go.Om
open Go Go.RowKit

def exitOf : Out → Exit
  | .nrm => .normal
  | .exit id => .exit id
  | .ret => .ret
def FinP (X : Nat → Prop) (n : Nat) (w : World) (C : Conc) (nv : Nat) (out : Out) (e' : AEnv) (h' : Hp) : Exit → Act → World → Prop := fun ex a' w' =>
  ex = exitOf out ∧ ∃ C', St X n e' h' a' w' C' ∧ Post X w C nv w' C' h'.nv

section
variable {P : Program} {X : Nat → Prop} {w w' w'' : World} {C C' C'' : Conc} {h h' ĥ : Hp} {v : AV} {e ê e' : AEnv} {mset eqs : List Nat} {n nt : Nat} {a : Act} {u : Value} {out : Out}

theorem FinP.step {w1 : World} {C1 : Conc} {nv1 : Nat} {ex : Exit} {a' : Act} (hp : Post X w1 C1 nv1 w C h.nv) (hf : FinP X n w C h.nv out e' h' ex a' w') : FinP X n w1 C1 nv1 out e' h' ex a' w' := by
  obtain ⟨h1, C', h2, h3⟩ := hf
  exact ⟨h1, C', h2, hp.trans h3⟩

theorem wp_strip {ac : AC} : ∀ (c : Code), compC P mset eqs nt c = some ac → (∀ c', (∀ x, c' ≠ .scope x) → compC P mset eqs nt c' = some ac → c'.wp P (FinP X n w C h.nv out e' h') a w) → c.wp P (FinP X n w C h.nv out e' h') a w
  | .scope x, hc, hh => by
    refine wp_scope_straight (wp_mono (wp_strip x (by simpa [compC] using hc) hh) fun ex a w hf => ?_)
    cases ex with
    | goto l => have := hf.1; cases out <;> simp [exitOf] at this
    | _ => exact hf
  | .skip, hc, hh => hh _ (by simp) hc
  | .label _, hc, hh => hh _ (by simp) hc
  | .region .., hc, hh => hh _ (by simp) hc
  | .seq .., hc, hh => hh _ (by simp) hc
  | .cond .., hc, hh => hh _ (by simp) hc
  | .block .., hc, hh => hh _ (by simp) hc
  | .loop .., hc, hh => hh _ (by simp) hc
  | .exit .., hc, hh => hh _ (by simp) hc
  | .ret, hc, hh => hh _ (by simp) hc
  | .goto .., hc, hh => hh _ (by simp) hc
  | .rangeFunc .., hc, hh => hh _ (by simp) hc

/-- What is claimed of code at a depth. -/
def CodeOk (P : Program) (mset eqs : List Nat) (F : Nat → Option AFn) (xr : Xr) (xp : Hdl) (n : Nat) : Prop :=
  ∀ (X : Nat → Prop) (nt : Nat) (c : Code) (ac : AC) (e : AEnv) (h : Hp) (out : Out) (e' : AEnv) (h' : Hp) (a : Act) (w : World) (C : Conc), compC P mset eqs nt c = some ac.bare → ghOk nt ac = true → aexec F xr xp n ac e h = some (out, e', h') → St X nt e h a w C →
    c.wp P (FinP X nt w C h.nv out e' h') a w
def LoopOk (P : Program) (mset eqs : List Nat) (F : Nat → Option AFn) (xr : Xr) (xp : Hdl) (n : Nat) : Prop :=
  ∀ (X : Nat → Prop) (nt : Nat) (c : Code) (ac : AC) (e : AEnv) (h : Hp) (out : Out) (e' : AEnv) (h' : Hp) (a : Act) (w : World) (C : Conc), compC P mset eqs nt c = some ac.bare → ghOk nt ac = true → aexec F xr xp n (.loop ac) e h = some (out, e', h') → St X nt e h a w C →
    ∀ (w1 : World) (C1 : Conc) (nv1 : Nat), Post X w1 C1 nv1 w C h.nv → Code.rounds P c (FinP X nt w1 C1 nv1 out e' h') n a w

variable {F : Nat → Option AFn} {xr : Xr} {xp : Hdl}

def hdN (F : Nat → Option AFn) (xr : Xr) (xp : Hdl) (n : Nat) : Hdl := mkHd F xp (fun fn args h0 => aexec F xr xp n fn.code (startEnv args) h0)

theorem start_st {us : List Value} {args : List AV} (T : Tot X w C h) (hr : ARels w (Shut X C) C h.nv args us) (hle : us.length ≤ nt ∨ True) : St X nt (startEnv args) h { tmps := us.toArray ++ Array.replicate (nt - us.toArray.size) undef, defers := [] } w C where
  tot := T
  size := by simp; omega
  defers := rfl
  tmp := fun t u ht hu => by
    unfold startEnv
    by_cases hl : t < us.length
    · rw [Array.getElem?_append_left (by simpa using hl)] at hu
      have hx := List.getElem?_eq_getElem (show t < args.length by rw [hr.1]; exact hl)
      rw [List.getD_eq_getElem?_getD, hx]
      exact hr.2 t _ u hx (by simpa using hu)
    · rw [Array.getElem?_append_right (by simpa using hl)] at hu
      rw [List.getD_eq_getElem?_getD, List.getElem?_eq_none (by rw [hr.1]; omega)]
      rw [Array.getElem?_replicate] at hu
      split at hu
      · cases hu; exact undef_rel
      · simp at hu

theorem hd_sound (hF : ∀ f fn, F f = some fn → IsFn P mset eqs f fn) (hXp : HdOk P xp) (S : CodeOk P mset eqs F xr xp n) : HdOk P (hdN F xr xp n) := by
  intro f args h v h2 hG hc
  unfold hdN mkHd at hc
  split at hc
  · rename_i r hr
    cases hc
    exact hXp _ _ _ _ _ hG hr
  · obtain ⟨fn, hfn, hc2⟩ := bind_some hc
    obtain ⟨gf, c, hf, hb, hnt, _, hcomp, hgh, hres, hname⟩ := hF f fn hfn
    have hent : Go.Proofs.Enters P f := Go.Proofs.enters_of hf (by simpa using hname) hb
    have hfin : ∃ out e' h', aexec F xr xp n fn.code (startEnv args) h = some (out, e', h') ∧ (out = .nrm ∨ out = .ret) ∧ ∃ v0, aresult e' h' fn.res = some v0 ∧ finish fn.own h.objs.length v0 h' = some (v, h2) := by
      unfold finR at hc2
      split at hc2
      · rename_i e' h' hx
        obtain ⟨v0, h1, h3⟩ := bind_some hc2
        exact ⟨_, e', h', hx, .inl rfl, v0, h1, h3⟩
      · rename_i e' h' hx
        obtain ⟨v0, h1, h3⟩ := bind_some hc2
        exact ⟨_, e', h', hx, .inr rfl, v0, h1, h3⟩
      · simp at hc2
    obtain ⟨out, e', h', hx, hout, v0, hv0, hfi⟩ := hfin
    have run : ∀ (X : Nat → Prop) (w : World) (C : Conc) (us : List Value), Tot X w C h → ARels w (Shut X C) C h.nv args us →
        Calls P f us.toArray w fun en w' => ∃ u C', en = .returned u ∧ Tot X w' C' h2 ∧ ARel w' (Shut X C') C' h2.nv v u ∧ Post X w C h.nv w' C' h2.nv ∧ Gave h.objs.length h2 := by
      intro X w C us T hr
      refine calls_of_wp hf hb ?_
      rw [hnt]
      refine wp_mono (S X fn.nt c fn.code _ h out e' h' _ w C hcomp hgh hx (start_st T hr (.inr trivial))) fun ex a' w' hp => ?_
      obtain ⟨hex, C', hst, hpo⟩ := hp
      obtain ⟨u, hu, hru⟩ := results_sound hres hv0 hst
      obtain ⟨C2, T2, hr2, hp2, hg2⟩ := finish_sound T hG hst.tot hpo hru hfi
      rcases hout with rfl | rfl <;> subst hex <;> exact ⟨hst.defers, u, hu, u, C2, rfl, T2, hr2, hp2, hg2⟩
    refine ⟨⟨hent, fun X w C us T hr => (run X w C us T hr).mono fun en w' hen => ?_⟩, ?_⟩
    · obtain ⟨u, C', h1, h3, h4, h5, _⟩ := hen
      exact ⟨u, C', h1, h3, h4, h5⟩
    · -- what comes back, from the abstract run alone
      unfold finish at hfi
      obtain ⟨⟨y, outs⟩, h3, h4⟩ := bind_some hfi
      simp only at h4
      split at h4
      · rename_i hc3
        obtain ⟨hle, hbx⟩ := hc3
        cases h4
        have O := fin_outs h3
        obtain ⟨rl, rg⟩ := rowsOut_get (h := h') (out := outs) (n := h.objs.length)
        have hlen : (h'.objs.take h.objs.length).length = h.objs.length := by simp; omega
        refine ⟨fun k o hk ho => ?_, by simp [rl]; omega, by simp; omega⟩
        simp only at ho
        rw [List.getElem?_append_right (by omega), hlen] at ho
        obtain ⟨q, h5, rfl⟩ := rg _ _ ho
        obtain ⟨e0, sz, ver, es, h6⟩ := (O.row q (List.mem_of_getElem? h5)).resolve_left (by simp)
        rw [h6]
        exact ⟨e0, sz, es, by simp only; congr 1; omega⟩
      · simp at h4

theorem code_sound (hm : P.follows .mixedOrders = true) (hF : ∀ f fn, F f = some fn → IsFn P mset eqs f fn) (hE : ∀ t, t ∈ eqs → EqOk P t) (hX : XrOk P xr) (hXp : HdOk P xp) : ∀ n, CodeOk P mset eqs F xr xp n ∧ LoopOk P mset eqs F xr xp n := by
  intro n
  induction n with
  | zero => exact ⟨fun X nt c ac e h out e' h' a w C _ _ hx => by simp [aexec] at hx, fun X nt c ac e h out e' h' a w C _ _ hx => by simp [aexec] at hx⟩
  | succ n ih =>
    obtain ⟨ihc, ihl⟩ := ih
    have hH := hd_sound hF hXp ihc
    have L : LoopOk P mset eqs F xr xp (n + 1) := by
      intro X nt c ac e h out e' h' a w C hc hg hx hs w1 C1 nv1 hp
      simp only [aexec] at hx
      rw [rounds_succ]
      split at hx
      · rename_i e1 h1 hx1
        refine wp_mono (ihc X nt c ac e h _ e1 h1 a w C hc hg hx1 hs) fun ex a' w' hf => ?_
        obtain ⟨hex, C', hst, hpo⟩ := hf
        subst hex
        exact ihl X nt c ac e1 h1 out e' h' a' w' C' hc hg hx hst w1 C1 nv1 (hp.trans hpo)
      · rename_i hne
        refine wp_mono (ihc X nt c ac e h _ e' h' a w C hc hg hx hs) fun ex a' w' hf => ?_
        have hf2 := hf.step hp
        have hex := hf.1
        cases out with
        | nrm => exact absurd hx (hne _ _)
        | exit id => subst hex; exact hf2
        | ret => subst hex; exact hf2
    refine ⟨?_, L⟩
    intro X nt c ac e h out e' h' a w C hc hg hx hs
    cases ac with
    | gh g ac =>
      simp only [aexec] at hx
      obtain ⟨⟨e1, h1⟩, hx1, hx2⟩ := bind_some hx
      simp only [ghOk, Bool.and_eq_true] at hg
      obtain ⟨C1, hs1, hp1⟩ := ghost_sound hx1 (by simpa [ghOk] using hg.1) hs
      exact wp_mono (ihc X nt c ac e1 h1 out e' h' a w C1 hc hg.2 hx2 hs1) fun ex a' w' hf => hf.step hp1
    | skip =>
      refine wp_strip c hc fun c' hns hc' => ?_
      simp only [aexec, Option.some.injEq, Prod.mk.injEq] at hx
      obtain ⟨rfl, rfl, rfl⟩ := hx
      cases c' <;> simp only [compC, AC.bare] at hc' <;> first | (exfalso; revert hc'; (repeat' split) <;> simp [Option.bind_eq_some_iff]; done) | skip
      · exact wp_skip ⟨rfl, C, hs, Post.refl _ _ _ _⟩
      · exact absurd rfl (hns _)
      · exact wp_label ⟨rfl, C, hs, Post.refl _ _ _ _⟩
    | ret =>
      refine wp_strip c hc fun c' hns hc' => ?_
      simp only [aexec, Option.some.injEq, Prod.mk.injEq] at hx
      obtain ⟨rfl, rfl, rfl⟩ := hx
      cases c' <;> simp only [compC, AC.bare] at hc' <;> first | (exfalso; revert hc'; (repeat' split) <;> simp [Option.bind_eq_some_iff]; done) | skip
      · exact absurd rfl (hns _)
      · exact wp_ret ⟨rfl, C, hs, Post.refl _ _ _ _⟩
    | exit id =>
      refine wp_strip c hc fun c' hns hc' => ?_
      simp only [aexec, Option.some.injEq, Prod.mk.injEq] at hx
      obtain ⟨rfl, rfl, rfl⟩ := hx
      cases c' <;> simp only [compC, AC.bare] at hc' <;> first | (exfalso; revert hc'; (repeat' split) <;> simp [Option.bind_eq_some_iff]; done) | skip
      · simp only [Option.some.injEq, AC.exit.injEq] at hc'
        subst hc'
        exact wp_exit ⟨rfl, C, hs, Post.refl _ _ _ _⟩
      · exact absurd rfl (hns _)
    | reg ax =>
      refine wp_strip c hc fun c' hns hc' => ?_
      simp only [aexec] at hx
      obtain ⟨⟨e1, h1⟩, hx1, hx2⟩ := map_some hx
      simp only [Prod.mk.injEq] at hx2
      obtain ⟨rfl, rfl, rfl⟩ := hx2
      cases c' <;> simp only [compC, AC.bare] at hc' <;> first | (exfalso; revert hc'; (repeat' split) <;> simp [Option.bind_eq_some_iff]; done) | skip
      · rename_i id ops draw
        obtain ⟨ax', hops, hc2⟩ := bind_some hc'
        split at hc2
        · rename_i ht
          split at hc2
          · split at hc2 <;> simp at hc2
          · rename_i hd
            simp only [Option.some.injEq, AC.reg.injEq] at hc2
            subst hc2
            have : draw = false := by simpa using hd
            subst this
            exact reg_sound hX hH hE hops ht hs hx1 fun a' w' C' h1 h2 => ⟨rfl, C', h1, h2⟩
        · simp at hc2
      · exact absurd rfl (hns _)
    | regD masks ax =>
      refine wp_strip c hc fun c' hns hc' => ?_
      simp only [aexec] at hx
      obtain ⟨⟨e1, h1⟩, hx1, hx2⟩ := map_some hx
      simp only [Prod.mk.injEq] at hx2
      obtain ⟨rfl, rfl, rfl⟩ := hx2
      cases c' <;> simp only [compC, AC.bare] at hc' <;> first | (exfalso; revert hc'; (repeat' split) <;> simp [Option.bind_eq_some_iff]; done) | skip
      · rename_i id ops draw
        obtain ⟨ax', hops, hc2⟩ := bind_some hc'
        split at hc2
        · rename_i ht
          split at hc2
          · rename_i hd
            subst hd
            split at hc2
            · rename_i ho
              simp only [Option.some.injEq, AC.regD.injEq] at hc2
              obtain ⟨rfl, rfl⟩ := hc2
              exact regD_sound hm hX hH hE hops ht ho hs hx1 fun a' w' C' h1 h2 => ⟨rfl, C', h1, h2⟩
            · simp at hc2
          · simp at hc2
        · simp at hc2
      · exact absurd rfl (hns _)
    | seq ac bc =>
      refine wp_strip c hc fun c' hns hc' => ?_
      simp only [ghOk, Bool.and_eq_true] at hg
      cases c' <;> simp only [compC, AC.bare] at hc' <;> first | (exfalso; revert hc'; (repeat' split) <;> simp [Option.bind_eq_some_iff]; done) | skip
      · rename_i x y
        obtain ⟨x', hx', hc2⟩ := bind_some hc'
        obtain ⟨y', hy', hz⟩ := map_some hc2
        simp only [AC.seq.injEq] at hz
        obtain ⟨rfl, rfl⟩ := hz
        refine wp_seq ?_
        simp only [aexec] at hx
        split at hx
        · rename_i e1 h1 hx1
          refine wp_mono (ihc X nt x ac e h _ e1 h1 a w C hx' hg.1 hx1 hs) fun ex a' w' hf => ?_
          obtain ⟨hex, C', hst, hpo⟩ := hf
          subst hex
          exact wp_mono (ihc X nt y bc e1 h1 out e' h' a' w' C' hy' hg.2 hx hst) fun ex a2 w2 hf2 => hf2.step hpo
        · rename_i hne
          refine wp_mono (ihc X nt x ac e h _ e' h' a w C hx' hg.1 hx hs) fun ex a' w' hf => ?_
          have hex := hf.1
          cases out with
          | nrm => exact absurd hx (hne _ _)
          | exit id => subst hex; exact hf
          | ret => subst hex; exact hf
      · exact absurd rfl (hns _)
    | cond cnd ac bc =>
      refine wp_strip c hc fun c' hns hc' => ?_
      simp only [ghOk, Bool.and_eq_true] at hg
      cases c' <;> simp only [compC, AC.bare] at hc' <;> first | (exfalso; revert hc'; (repeat' split) <;> simp [Option.bind_eq_some_iff]; done) | skip
      · rename_i co x y
        split at hc'
        · rename_i t
          split at hc'
          · rename_i ht
            obtain ⟨x', hx', hc2⟩ := bind_some hc'
            obtain ⟨y', hy', hz⟩ := map_some hc2
            simp only [AC.cond.injEq] at hz
            obtain ⟨rfl, rfl, rfl⟩ := hz
            simp only [aexec] at hx
            split at hx
            · rename_i b hb
              have hv := hs.tmp t _ ht (tmps_getD (Nat.lt_of_lt_of_le ht hs.size))
              simp only [Opd.ev] at hb
              rw [hb] at hv
              refine wp_cond (t := b) (by simpa [Act.eval] using hv.inv_iv.inv_bool) ?_
              cases b with
              | true => exact ihc X nt x ac e h out e' h' a w C hx' hg.1 hx hs
              | false => exact ihc X nt y bc e h out e' h' a w C hy' hg.2 hx hs
            · simp at hx
          · simp at hc'
        · simp at hc'
      · exact absurd rfl (hns _)
    | block id ac =>
      refine wp_strip c hc fun c' hns hc' => ?_
      simp only [ghOk] at hg
      cases c' <;> simp only [compC, AC.bare] at hc' <;> first | (exfalso; revert hc'; (repeat' split) <;> simp [Option.bind_eq_some_iff]; done) | skip
      · rename_i id' x
        obtain ⟨x', hx', hz⟩ := map_some hc'
        simp only [AC.block.injEq] at hz
        obtain ⟨rfl, rfl⟩ := hz
        refine wp_block ?_
        simp only [aexec] at hx
        split at hx
        · rename_i i e1 h1 hx1
          simp only [Option.some.injEq, Prod.mk.injEq] at hx
          obtain ⟨rfl, rfl, rfl⟩ := hx
          refine wp_mono (ihc X nt x ac e h _ _ _ a w C hx' hg hx1 hs) fun ex a' w' hf => ?_
          obtain ⟨hex, C', hst, hpo⟩ := hf
          subst hex
          simp only [exitOf, Exit.inBlock]
          split
          · exact ⟨rfl, C', hst, hpo⟩
          · exact ⟨rfl, C', hst, hpo⟩
        · rename_i hne
          refine wp_mono (ihc X nt x ac e h _ e' h' a w C hx' hg hx hs) fun ex a' w' hf => ?_
          have hex := hf.1
          cases out with
          | nrm => subst hex; exact hf
          | exit i => exact absurd hx (hne _ _ _)
          | ret => subst hex; exact hf
      · exact absurd rfl (hns _)
    | loop ac =>
      refine wp_strip c hc fun c' hns hc' => ?_
      simp only [ghOk] at hg
      cases c' <;> simp only [compC, AC.bare] at hc' <;> first | (exfalso; revert hc'; (repeat' split) <;> simp [Option.bind_eq_some_iff]; done) | skip
      · rename_i x
        obtain ⟨x', hx', hz⟩ := map_some hc'
        simp only [AC.loop.injEq] at hz
        subst hz
        exact wp_loop_rounds (n + 1) (L X nt x ac e h out e' h' a w C hx' hg hx hs w C h.nv (Post.refl _ _ _ _))
      · exact absurd rfl (hns _)

theorem acall_ok (hm : P.follows .mixedOrders = true) (hF : ∀ f fn, F f = some fn → IsFn P mset eqs f fn) (hE : ∀ t, t ∈ eqs → EqOk P t) (hX : XrOk P xr) (hXp : HdOk P xp) (n : Nat) : HdOk P (acall F xr xp n) :=
  hd_sound hF hXp (code_sound hm hF hE hX hXp n).1
end
end Go.Om
