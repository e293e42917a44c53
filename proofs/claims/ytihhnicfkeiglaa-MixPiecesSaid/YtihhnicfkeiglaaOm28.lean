/-
  Om: the interpreter without a bound: its equations.
-/
import Derived.Test.YtihhnicfkeiglaaOm27
set_option linter.all false
namespace Go.Om
open Go Go.RowKit

section
variable {F : Nat → Option AFn} {xr : Xr} {xp : Hdl} {hd hd' : Hdl} {e e' : AEnv} {h h' : Hp} {v : AV}

/-- hd' tells at least what hd tells. -/
def Hdl.le (hd hd' : Hdl) : Prop := ∀ f args h r, hd f args h = some r → hd' f args h = some r
def OLe {α : Type} (a b : Option α) : Prop := ∀ r, a = some r → b = some r
theorem OLe.refl {α : Type} (a : Option α) : OLe a a := fun _ h => h
theorem OLe.bind {α β : Type} {a b : Option α} {f g : α → Option β} (h : OLe a b) (hf : ∀ x, OLe (f x) (g x)) : OLe (a.bind f) (b.bind g) := by
  intro r hr
  obtain ⟨x, h1, h2⟩ := bind_some hr
  rw [h x h1]
  exact hf x r h2
theorem OLe.map {α β : Type} {a b : Option α} {f : α → β} (h : OLe a b) : OLe (a.map f) (b.map f) := by
  intro r hr
  obtain ⟨x, h1, h2⟩ := map_some hr
  rw [h x h1, ← h2]
  rfl
theorem OLe.ite {α : Type} {c : Prop} [Decidable c] {a b a' b' : Option α} (h1 : OLe a a') (h2 : OLe b b') : OLe (if c then a else b) (if c then a' else b') := by
  split
  · exact h1
  · exact h2

theorem via_mono (hh : Hdl.le hd hd') {g : Nat} {all : List AV} : OLe (viaHd hd g all h) (viaHd hd' g all h) := by
  unfold viaHd
  refine (OLe.refl _).bind fun x => (OLe.refl _).bind fun y => OLe.bind (hh _ _ _) fun z => OLe.refl _
theorem callV_mono (hh : Hdl.le hd hd') {m : Bool} {f : AV} {vs : List AV} : OLe (callV xr hd m f vs h) (callV xr hd' m f vs h) := by
  unfold callV
  split
  · refine OLe.ite (OLe.ite ?_ ((OLe.refl _).bind fun x => OLe.ite (via_mono hh) (OLe.refl _))) (OLe.refl _)
    split
    · exact OLe.refl _
    · exact via_mono hh
  · exact OLe.refl _
theorem astep_mono (hh : Hdl.le hd hd') {i : AI} : OLe (astep xr hd i e h) (astep xr hd' i e h) := by
  cases i <;> first | exact OLe.refl _ | exact callV_mono hh
theorem arun_mono (hh : Hdl.le hd hd') : ∀ {ops : List AOp} {e : AEnv} {h : Hp}, OLe (arun xr hd ops e h) (arun xr hd' ops e h)
  | [], e, h => OLe.refl _
  | o :: r, e, h => by
    simp only [arun]
    split
    · exact (astep_mono hh).bind fun y => arun_mono hh
    · split
      · exact OLe.ite ((astep_mono hh).bind fun y => arun_mono hh) (arun_mono hh)
      · exact arun_mono hh
      · exact OLe.refl _
theorem arunF_mono (hh : Hdl.le hd hd') : ∀ {ops : List AOp} {n : Nat} {e : AEnv} {h : Hp}, OLe (arunF xr hd n ops e h) (arunF xr hd' n ops e h)
  | [], n, e, h => OLe.refl _
  | o :: r, n, e, h => by
    simp only [arunF]
    split
    · exact (astep_mono hh).bind fun y => OLe.map (arunF_mono hh)
    · split
      · exact OLe.ite ((astep_mono hh).bind fun y => OLe.map (arunF_mono hh)) (arunF_mono hh)
      · exact arunF_mono hh
      · exact OLe.refl _
theorem arunD_mono (hh : Hdl.le hd hd') {ms : List Nat} {ops : List AOp} : OLe (arunD xr hd ms ops e h) (arunD xr hd' ms ops e h) := by
  unfold arunD
  exact OLe.bind (arunF_mono hh) fun z => OLe.refl _
theorem finR_mono {fn : AFn} {nk : Nat} {a b : Option (Out × AEnv × Hp)} (hh : OLe a b) : OLe (finR fn nk a) (finR fn nk b) := by
  intro r hr
  cases a with
  | none => simp [finR] at hr
  | some x => rw [hh x rfl]; exact hr
theorem mkHd_mono {run run' : AFn → List AV → Hp → Option (Out × AEnv × Hp)} (hh : ∀ fn args h, OLe (run fn args h) (run' fn args h)) : Hdl.le (mkHd F xp run) (mkHd F xp run') := by
  intro f args h r hr
  unfold mkHd at hr ⊢
  split at hr
  · exact hr
  · obtain ⟨fn, h1, h2⟩ := bind_some hr
    rw [h1]
    exact finR_mono (hh fn args h) r h2
theorem aexec_mono1 : ∀ {n : Nat} {c : AC} {e : AEnv} {h : Hp}, OLe (aexec F xr xp n c e h) (aexec F xr xp (n + 1) c e h) := by
  intro n
  induction n with
  | zero => intro c e h r hr; simp [aexec] at hr
  | succ n ih =>
    intro c e h
    have hH : Hdl.le (mkHd F xp (fun fn args h0 => aexec F xr xp n fn.code (startEnv args) h0)) (mkHd F xp (fun fn args h0 => aexec F xr xp (n + 1) fn.code (startEnv args) h0)) := mkHd_mono fun fn args h => ih
    cases c with
    | skip => simp only [aexec]; exact OLe.refl _
    | exit id => simp only [aexec]; exact OLe.refl _
    | ret => simp only [aexec]; exact OLe.refl _
    | reg ops => rw [aexec, aexec.eq_def _ _ _ (n + 1 + 1)]; exact OLe.map (arun_mono hH)
    | regD ms ops => rw [aexec, aexec.eq_def _ _ _ (n + 1 + 1)]; exact OLe.map (arunD_mono hH)
    | seq a b =>
      rw [aexec, aexec.eq_def _ _ _ (n + 1 + 1)]
      simp only
      intro r hr
      cases hx : aexec F xr xp n a e h with
      | none => rw [hx] at hr; simp at hr
      | some y =>
        rw [ih _ hx]
        rw [hx] at hr
        obtain ⟨o, e1, h1⟩ := y
        cases o with
        | nrm => exact ih _ hr
        | exit id => exact hr
        | ret => exact hr
    | cond c a b =>
      rw [aexec, aexec.eq_def _ _ _ (n + 1 + 1)]
      simp only
      split
      · exact ih
      · exact OLe.refl _
    | block id a =>
      rw [aexec, aexec.eq_def _ _ _ (n + 1 + 1)]
      simp only
      intro r hr
      cases hx : aexec F xr xp n a e h with
      | none => rw [hx] at hr; simp at hr
      | some y => rw [ih _ hx]; rw [hx] at hr; exact hr
    | loop a =>
      rw [aexec, aexec.eq_def _ _ _ (n + 1 + 1)]
      simp only
      intro r hr
      cases hx : aexec F xr xp n a e h with
      | none => rw [hx] at hr; simp at hr
      | some y =>
        rw [ih _ hx]
        rw [hx] at hr
        obtain ⟨o, e1, h1⟩ := y
        cases o with
        | nrm => exact ih _ hr
        | exit id => exact hr
        | ret => exact hr
    | gh g a =>
      rw [aexec, aexec.eq_def _ _ _ (n + 1 + 1)]
      exact (OLe.refl _).bind fun y => ih
theorem aexec_mono {n m : Nat} (hnm : n ≤ m) {c : AC} : OLe (aexec F xr xp n c e h) (aexec F xr xp m c e h) := by
  induction m with
  | zero => rw [show n = 0 by omega]; exact OLe.refl _
  | succ m ih =>
    by_cases hq : n = m + 1
    · rw [hq]; exact OLe.refl _
    · exact fun r hr => aexec_mono1 r (ih (by omega) r hr)

/-- What a growing sequence comes to. -/
noncomputable def lim {α : Type} (f : Nat → Option α) : Option α := by
  classical exact if hh : ∃ r, ∃ n, f n = some r then some hh.choose else none
theorem lim_some {α : Type} {f : Nat → Option α} (hm : ∀ n m, n ≤ m → OLe (f n) (f m)) {r : α} : lim f = some r ↔ ∃ n, f n = some r := by
  unfold lim
  constructor
  · intro hr
    split at hr
    · rename_i hh
      simp only [Option.some.injEq] at hr
      rw [← hr]
      exact hh.choose_spec
    · simp at hr
  · rintro ⟨n, hn⟩
    have hh : ∃ r, ∃ n, f n = some r := ⟨r, n, hn⟩
    rw [dif_pos hh]
    obtain ⟨m, hm1⟩ := hh.choose_spec
    have h1 := hm n (max n m) (by omega) _ hn
    have h2 := hm m (max n m) (by omega) _ hm1
    rw [h1] at h2
    exact h2.symm

noncomputable def aex (F : Nat → Option AFn) (xr : Xr) (xp : Hdl) (c : AC) (e : AEnv) (h : Hp) : Option (Out × AEnv × Hp) := lim fun n => aexec F xr xp n c e h
noncomputable def ac (F : Nat → Option AFn) (xr : Xr) (xp : Hdl) : Hdl := mkHd F xp fun fn args h0 => aex F xr xp fn.code (startEnv args) h0

theorem aex_some {c : AC} {r : Out × AEnv × Hp} : aex F xr xp c e h = some r ↔ ∃ n, aexec F xr xp n c e h = some r := lim_some fun n m hnm => aexec_mono hnm
theorem aex_eq {c : AC} {x : Option (Out × AEnv × Hp)} (h1 : ∀ r, x = some r → ∃ n, aexec F xr xp n c e h = some r) (h2 : ∀ n r, aexec F xr xp n c e h = some r → x = some r) : aex F xr xp c e h = x := by
  cases hq : aex F xr xp c e h with
  | some r =>
    obtain ⟨n, hn⟩ := aex_some.1 hq
    exact (h2 n r hn).symm
  | none =>
    cases hx : x with
    | none => rfl
    | some r => rw [aex_some.2 (h1 r hx)] at hq; cases hq

theorem hdN_mono {n m : Nat} (hnm : n ≤ m) : Hdl.le (hdN F xr xp n) (hdN F xr xp m) := mkHd_mono fun fn args h => aexec_mono hnm
theorem ac_some {f : Nat} {args : List AV} {r : AV × Hp} : ac F xr xp f args h = some r ↔ ∃ n, hdN F xr xp n f args h = some r := by
  unfold ac hdN mkHd
  split
  · rename_i q hq
    exact ⟨fun hh => ⟨0, hh⟩, fun ⟨_, hh⟩ => hh⟩
  · constructor
    · intro hr
      obtain ⟨fn, h1, h2'⟩ := bind_some hr
      have h2 : finR fn h.objs.length (aex F xr xp fn.code (startEnv args) h) = some r := h2'
      cases hq : aex F xr xp fn.code (startEnv args) h with
      | none => rw [hq] at h2; simp [finR] at h2
      | some y =>
        obtain ⟨n, hn⟩ := aex_some.1 hq
        exact ⟨n, by rw [h1]; simp only [Option.bind_some]; rw [hn, ← hq]; exact h2⟩
    · rintro ⟨n, hr⟩
      obtain ⟨fn, h1, h2⟩ := bind_some hr
      rw [h1]
      simp only [Option.bind_some]
      exact finR_mono (fun r hr => aex_some.2 ⟨n, hr⟩) _ h2

/-- A finite run asks finitely many calls. -/
theorem ac_le {n : Nat} : Hdl.le (hdN F xr xp n) (ac F xr xp) := fun _ _ _ _ hr => ac_some.2 ⟨n, hr⟩
def Fin1 {α : Type} (g : Hdl → Option α) : Prop := ∀ (F : Nat → Option AFn) (xr : Xr) (xp : Hdl) r, g (ac F xr xp) = some r → ∃ n, ∀ m, n ≤ m → g (hdN F xr xp m) = some r
theorem Fin1.const {α : Type} (x : Option α) : Fin1 (fun _ => x) := fun _ _ _ r hr => ⟨0, fun _ _ => hr⟩
theorem Fin1.bind {α β : Type} {g : Hdl → Option α} {k : Hdl → α → Option β} (h1 : Fin1 g) (h2 : ∀ x, Fin1 (fun hd => k hd x)) : Fin1 (fun hd => (g hd).bind (k hd)) := by
  intro F xr xp r hr
  obtain ⟨x, h3, h4⟩ := bind_some hr
  obtain ⟨n1, h5⟩ := h1 F xr xp x h3
  obtain ⟨n2, h6⟩ := h2 x F xr xp r h4
  exact ⟨max n1 n2, fun m hm => by simp only; rw [h5 m (by omega)]; exact h6 m (by omega)⟩
theorem Fin1.map {α β : Type} {g : Hdl → Option α} {k : α → β} (h1 : Fin1 g) : Fin1 (fun hd => (g hd).map k) := by
  intro F xr xp r hr
  obtain ⟨x, h3, h4⟩ := map_some hr
  obtain ⟨n1, h5⟩ := h1 F xr xp x h3
  exact ⟨n1, fun m hm => by simp only; rw [h5 m hm, ← h4]; rfl⟩
theorem Fin1.ite {α : Type} {c : Prop} [Decidable c] {g k : Hdl → Option α} (h1 : Fin1 g) (h2 : Fin1 k) : Fin1 (fun hd => if c then g hd else k hd) := by
  by_cases hc : c
  · simpa only [hc, if_true] using h1
  · simpa only [hc, if_false] using h2
theorem fin_call (f : Nat) (args : List AV) (h : Hp) : Fin1 (fun hd => hd f args h) := by
  intro F xr xp r hr
  obtain ⟨n, hn⟩ := ac_some.1 hr
  exact ⟨n, fun m hm => hdN_mono hm _ _ _ _ hn⟩
theorem fin_via (g : Nat) (all : List AV) (h : Hp) : Fin1 (fun hd => viaHd hd g all h) := by
  unfold viaHd
  exact (Fin1.const _).bind fun x => (Fin1.const _).bind fun y => Fin1.bind (fin_call _ _ _) fun z => Fin1.const _
theorem fin_callV (m : Bool) (f : AV) (vs : List AV) (h : Hp) : Fin1 (fun hd => callV xr hd m f vs h) := by
  unfold callV
  split
  · refine Fin1.ite (Fin1.ite ?_ ((Fin1.const _).bind fun x => Fin1.ite (fin_via _ _ _) (Fin1.const _))) (Fin1.const _)
    split
    · exact Fin1.const _
    · exact fin_via _ _ _
  · exact Fin1.const _
theorem fin_astep (i : AI) (e : AEnv) (h : Hp) : Fin1 (fun hd => astep xr hd i e h) := by
  cases i <;> first | exact Fin1.const _ | exact fin_callV _ _ _ _
theorem fin_arun : ∀ (ops : List AOp) (e : AEnv) (h : Hp), Fin1 (fun hd => arun xr hd ops e h)
  | [], e, h => Fin1.const _
  | o :: r, e, h => by
    simp only [arun]
    split
    · exact (fin_astep _ _ _).bind fun y => fin_arun _ _ _
    · split
      · exact Fin1.ite ((fin_astep _ _ _).bind fun y => fin_arun _ _ _) (fin_arun _ _ _)
      · exact fin_arun _ _ _
      · exact Fin1.const _
theorem fin_arunF : ∀ (ops : List AOp) (n : Nat) (e : AEnv) (h : Hp), Fin1 (fun hd => arunF xr hd n ops e h)
  | [], n, e, h => Fin1.const _
  | o :: r, n, e, h => by
    simp only [arunF]
    split
    · exact (fin_astep _ _ _).bind fun y => Fin1.map (fin_arunF _ _ _ _)
    · split
      · exact Fin1.ite ((fin_astep _ _ _).bind fun y => Fin1.map (fin_arunF _ _ _ _)) (fin_arunF _ _ _ _)
      · exact fin_arunF _ _ _ _
      · exact Fin1.const _
theorem fin_arunD (ms : List Nat) (ops : List AOp) (e : AEnv) (h : Hp) : Fin1 (fun hd => arunD xr hd ms ops e h) := by
  unfold arunD
  exact (fin_arunF _ _ _ _).bind fun z => Fin1.const _

/-! ### the equations -/
theorem aex_skip : aex F xr xp .skip e h = some (.nrm, e, h) := aex_some.2 ⟨1, rfl⟩
theorem aex_exit {id : Nat} : aex F xr xp (.exit id) e h = some (.exit id, e, h) := aex_some.2 ⟨1, rfl⟩
theorem aex_ret : aex F xr xp .ret e h = some (.ret, e, h) := aex_some.2 ⟨1, rfl⟩
theorem aex_reg {ops : List AOp} : aex F xr xp (.reg ops) e h = (arun xr (ac F xr xp) ops e h).map fun y => (.nrm, y.1, y.2) := by
  refine aex_eq (fun r hr => ?_) fun n r hr => ?_
  · obtain ⟨y, h1, h2⟩ := map_some hr
    obtain ⟨n, h3⟩ := fin_arun ops e h F xr xp y h1
    exact ⟨n + 1, by rw [aexec]; have this : arun xr (hdN F xr xp n) ops e h = some y := h3 n (Nat.le_refl _); unfold hdN at this; rw [this]; exact congrArg some h2⟩
  · cases n with
    | zero => simp [aexec] at hr
    | succ n =>
      rw [aexec] at hr
      exact OLe.map (arun_mono ac_le) r hr
theorem aex_regD {ms : List Nat} {ops : List AOp} : aex F xr xp (.regD ms ops) e h = (arunD xr (ac F xr xp) ms ops e h).map fun y => (.nrm, y.1, y.2) := by
  refine aex_eq (fun r hr => ?_) fun n r hr => ?_
  · obtain ⟨y, h1, h2⟩ := map_some hr
    obtain ⟨n, h3⟩ := fin_arunD ms ops e h F xr xp y h1
    exact ⟨n + 1, by rw [aexec]; have this : arunD xr (hdN F xr xp n) ms ops e h = some y := h3 n (Nat.le_refl _); unfold hdN at this; rw [this]; exact congrArg some h2⟩
  · cases n with
    | zero => simp [aexec] at hr
    | succ n =>
      rw [aexec] at hr
      exact OLe.map (arunD_mono ac_le) r hr
/-- What follows when the code has come to its end. -/
def Out.andThen (r : Option (Out × AEnv × Hp)) (k : AEnv → Hp → Option (Out × AEnv × Hp)) : Option (Out × AEnv × Hp) := match r with
  | some (.nrm, e', h') => k e' h'
  | r => r
@[simp] theorem andThen_nrm {k : AEnv → Hp → Option (Out × AEnv × Hp)} : Out.andThen (some (.nrm, e, h)) k = k e h := rfl
@[simp] theorem andThen_ret {k : AEnv → Hp → Option (Out × AEnv × Hp)} : Out.andThen (some (.ret, e, h)) k = some (.ret, e, h) := rfl
@[simp] theorem andThen_exit {id : Nat} {k : AEnv → Hp → Option (Out × AEnv × Hp)} : Out.andThen (some (.exit id, e, h)) k = some (.exit id, e, h) := rfl
theorem then_eq {a : AC} {k : AEnv → Hp → Option (Out × AEnv × Hp)} {c : AC} {kn : Nat → AEnv → Hp → Option (Out × AEnv × Hp)} (hc : ∀ n, aexec F xr xp (n + 1) c e h = (match aexec F xr xp n a e h with | some (.nrm, e', h') => kn n e' h' | r => r))
    (hk : ∀ e h r, k e h = some r ↔ ∃ n, kn n e h = some r) (hkm : ∀ n m e h, n ≤ m → OLe (kn n e h) (kn m e h)) : aex F xr xp c e h = Out.andThen (aex F xr xp a e h) k := by
  refine aex_eq (fun r hr => ?_) fun n r hr => ?_
  · cases hq : aex F xr xp a e h with
    | none => rw [hq] at hr; simp [Out.andThen] at hr
    | some y =>
      obtain ⟨n, hn⟩ := aex_some.1 hq
      rw [hq] at hr
      obtain ⟨o, e1, h1⟩ := y
      cases o with
      | nrm =>
        simp only [andThen_nrm] at hr
        obtain ⟨m, hm⟩ := (hk _ _ _).1 hr
        refine ⟨max n m + 1, ?_⟩
        rw [hc, aexec_mono (by omega : n ≤ max n m) _ hn]
        exact hkm m (max n m) _ _ (by omega) _ hm
      | exit id => exact ⟨n + 1, by rw [hc, hn]; exact hr⟩
      | ret => exact ⟨n + 1, by rw [hc, hn]; exact hr⟩
  · cases n with
    | zero => simp [aexec] at hr
    | succ n =>
      rw [hc] at hr
      cases hq : aexec F xr xp n a e h with
      | none => rw [hq] at hr; simp at hr
      | some y =>
        rw [hq] at hr
        rw [aex_some.2 ⟨n, hq⟩]
        obtain ⟨o, e1, h1⟩ := y
        cases o with
        | nrm => exact (hk _ _ _).2 ⟨n, hr⟩
        | exit id => exact hr
        | ret => exact hr
theorem aex_seq {a b : AC} : aex F xr xp (.seq a b) e h = Out.andThen (aex F xr xp a e h) (aex F xr xp b) :=
  then_eq (kn := fun n => aexec F xr xp n b) (fun n => by rw [aexec]; cases aexec F xr xp n a e h with | none => rfl | some y => obtain ⟨o, _, _⟩ := y; cases o <;> rfl) (fun _ _ _ => aex_some) (fun _ _ _ _ h => aexec_mono h)
theorem aex_loop {a : AC} : aex F xr xp (.loop a) e h = Out.andThen (aex F xr xp a e h) (aex F xr xp (.loop a)) :=
  then_eq (kn := fun n => aexec F xr xp n (.loop a)) (fun n => by rw [aexec]; cases aexec F xr xp n a e h with | none => rfl | some y => obtain ⟨o, _, _⟩ := y; cases o <;> rfl) (fun _ _ _ => aex_some) (fun _ _ _ _ h => aexec_mono h)
theorem aex_cond {c : Opd} {a b : AC} {t : Bool} (hc : c.ev e = .iv (.bool t)) : aex F xr xp (.cond c a b) e h = aex F xr xp (if t then a else b) e h := by
  refine aex_eq (fun r hr => ?_) fun n r hr => ?_
  · obtain ⟨n, hn⟩ := aex_some.1 hr
    exact ⟨n + 1, by rw [aexec]; simp only [hc]; exact hn⟩
  · cases n with
    | zero => simp [aexec] at hr
    | succ n =>
      rw [aexec] at hr
      simp only [hc] at hr
      exact aex_some.2 ⟨n, hr⟩
def Out.inBlock (id : Nat) : Option (Out × AEnv × Hp) → Option (Out × AEnv × Hp)
  | some (.exit i, e', h') => some (if i = id then .nrm else .exit i, e', h')
  | r => r
@[simp] theorem inBlock_nrm {id : Nat} : Out.inBlock id (some (.nrm, e, h)) = some (.nrm, e, h) := rfl
@[simp] theorem inBlock_ret {id : Nat} : Out.inBlock id (some (.ret, e, h)) = some (.ret, e, h) := rfl
@[simp] theorem inBlock_exit {id i : Nat} : Out.inBlock id (some (.exit i, e, h)) = some (if i = id then .nrm else .exit i, e, h) := rfl
theorem aex_block {id : Nat} {a : AC} : aex F xr xp (.block id a) e h = Out.inBlock id (aex F xr xp a e h) := by
  refine aex_eq (fun r hr => ?_) fun n r hr => ?_
  · cases hq : aex F xr xp a e h with
    | none => rw [hq] at hr; simp [Out.inBlock] at hr
    | some y =>
      obtain ⟨n, hn⟩ := aex_some.1 hq
      rw [hq] at hr
      exact ⟨n + 1, by rw [aexec, hn]; exact hr⟩
  · cases n with
    | zero => simp [aexec] at hr
    | succ n =>
      rw [aexec] at hr
      cases hq : aexec F xr xp n a e h with
      | none => rw [hq] at hr; simp at hr
      | some y => rw [aex_some.2 ⟨n, hq⟩]; rw [hq] at hr; exact hr
theorem aex_gh {g : Gh} {a : AC} : aex F xr xp (.gh g a) e h = (aghost g e h).bind fun y => aex F xr xp a y.1 y.2 := by
  refine aex_eq (fun r hr => ?_) fun n r hr => ?_
  · obtain ⟨y, h1, h2⟩ := bind_some hr
    obtain ⟨n, hn⟩ := aex_some.1 h2
    exact ⟨n + 1, by rw [aexec, h1]; exact hn⟩
  · cases n with
    | zero => simp [aexec] at hr
    | succ n =>
      rw [aexec] at hr
      obtain ⟨y, h1, h2⟩ := bind_some hr
      rw [h1]
      exact aex_some.2 ⟨n, h2⟩
theorem ac_fn {f : Nat} {args : List AV} {fn : AFn} (hp : xp f args h = none) (hF : F f = some fn) : ac F xr xp f args h = finR fn h.objs.length (aex F xr xp fn.code (startEnv args) h) := by
  unfold ac mkHd
  rw [hp, hF]
  rfl
theorem ac_xp {f : Nat} {args : List AV} {r : AV × Hp} (hp : xp f args h = some r) : ac F xr xp f args h = some r := by
  unfold ac mkHd
  rw [hp]

theorem ac_ok {P : Program} {mset eqs : List Nat} (hm : P.follows .mixedOrders = true) (hF : ∀ f fn, F f = some fn → IsFn P mset eqs f fn) (hE : ∀ t, t ∈ eqs → EqOk P t) (hX : XrOk P xr) (hXp : HdOk P xp) : HdOk P (ac F xr xp) := by
  intro f args h v h' hG hr
  obtain ⟨n, hn⟩ := ac_some.1 hr
  exact acall_ok hm hF hE hX hXp n f args h v h' hG hn
end
end Go.Om
