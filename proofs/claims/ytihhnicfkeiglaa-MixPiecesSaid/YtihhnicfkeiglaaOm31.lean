/-
  Om: the row of a law that gives true and turns nothing, out of the abstract run.
-/
import Derived.Test.YtihhnicfkeiglaaOm30
set_option linter.all false
namespace Go.Om
open Go Go.RowKit Go.ChangeShapes Go.WideShapes

def isAg (P : Program) (t : TypeId) : Bool := match P.underlying t with
  | some (.struct _) | some (.array _ _) => true
  | _ => false
def ArgHas (s : Bool × List Sh) (a : AV) : Prop := ∃ xs : List IV, HasAll s.2 xs ∧ ((s.1 = true ∧ a = .agg (xs.map .iv)) ∨ (s.1 = false ∧ ∃ x, xs = [x] ∧ a = .iv x))
def ArgsHas : List (Bool × List Sh) → List AV → Prop
  | [], zs => zs = []
  | s :: r, zs => ∃ a b, zs = a :: b ∧ ArgHas s a ∧ ArgsHas r b

section
variable {H : Type} {enc : TypeId × Value → H} {P : Program} {w : World} {sp : Nat → Bool} {held : Bool} {S : Nat → Prop} {C : Conc} {nv : Nat}

theorem arg_open (hS : ∀ b, ¬ S b) {m : Nat} {t : TypeId} {v : Value} {d : DataW H} {ps : List MemPlace} {L : List Sh} {r : Reach} {b0 : Nat} {w0 : World} (hL : shOf P m t = some L) (h : DataW.Trod enc P w 0 sp held t v d ps) (hv : Value.okWide P w0 r b0 t v) :
    ∃ a, ArgHas (isAg P t, L) a ∧ ARel w S C nv a v := by
  obtain ⟨n, hn⟩ := h
  obtain ⟨hlen, xs, h1, h2⟩ := trod_open (S := S) hS n m t _ _ L hL hn
  have agg : ∀ cs : Array Value, v = .agg cs → isAg P t = true → ∃ a, ArgHas (isAg P t, L) a ∧ ARel w S C nv a v := by
    intro cs hvc hag
    subst hvc
    refine ⟨.agg (xs.map .iv), ⟨xs, h1, .inl ⟨hag, rfl⟩⟩, ?_⟩
    have : Value.agg cs = .agg cs.toList.toArray := by simp
    rw [this]
    refine .agg _ _ (by rw [List.length_map, h1.1]; exact hlen.symm) fun j x u hx hu => ?_
    rw [List.getElem?_map] at hx
    cases hxj : xs[j]? with
    | none => rw [hxj] at hx; simp at hx
    | some y => rw [hxj] at hx; simp at hx; subst hx; exact .iv (h2 j y u hxj hu)
  have one : (∀ cs, v ≠ .agg cs) → isAg P t = false → ∃ a, ArgHas (isAg P t, L) a ∧ ARel w S C nv a v := by
    intro hna hag
    have hc : v.cells.toList = [v] := by
      unfold Value.cells
      split
      · exact absurd rfl (hna _)
      · rfl
    rw [hc] at hlen h2
    have hl : xs.length = 1 := by rw [h1.1, ← hlen]; rfl
    match xs, hl with
    | [x], _ => exact ⟨.iv x, ⟨[x], h1, .inr ⟨hag, x, rfl, rfl⟩⟩, .iv (h2 0 x v rfl rfl)⟩
  cases m with
  | zero => simp [shOf] at hL
  | succ m =>
    simp only [shOf] at hL
    split at hL
    · rename_i hu
      obtain ⟨b, rfl⟩ := okWide_bool hu hv
      exact one (by simp) (by simp [isAg, hu])
    · rename_i k hu
      obtain ⟨b, rfl⟩ := okWide_int hu hv
      exact one (by simp) (by simp [isAg, hu])
    · rename_i hu
      obtain ⟨b, rfl⟩ := okWide_string hu hv
      exact one (by simp) (by simp [isAg, hu])
    · rename_i e hu
      obtain ⟨a, l, c, rfl⟩ := okWide_slice hu hv
      exact one (by simp) (by simp [isAg, hu])
    · rename_i fs hu
      obtain ⟨cs, rfl, _⟩ := okWide_struct hu hv
      exact agg cs rfl (by simp [isAg, hu])
    · rename_i q e hu
      have : ∃ cs, v = .agg cs := by
        unfold Value.okWide at hv
        rw [hu] at hv
        obtain ⟨cs, h, _⟩ := hv
        exact ⟨cs, h⟩
      obtain ⟨cs, rfl⟩ := this
      exact agg cs rfl (by simp [isAg, hu])
    · cases hL

theorem args_open (hS : ∀ b, ¬ S b) {w0 : World} {r : Reach} {b0 m : Nat} : ∀ (ts : List TypeId) (vs : List Value) (ds : List (DataW H)) (ps : List MemPlace) (sig : List (Bool × List Sh)), ts.map (fun t => (isAg P t, shOf P m t)) = sig.map (fun s => (s.1, some s.2)) →
    DataW.TrodAll enc P w 0 sp held ts vs ds ps → (∀ (j : Nat) t v, ts[j]? = some t → vs[j]? = some v → Value.okWide P w0 r b0 t v) → ∃ zs, ArgsHas sig zs ∧ ARels w S C nv zs vs := by
  intro ts
  induction ts with
  | nil =>
    intro vs ds ps sig hs h _
    obtain ⟨rfl, rfl, rfl⟩ := trodAll_nil h
    cases sig with
    | nil => exact ⟨[], rfl, ARels.nil⟩
    | cons s r => simp at hs
  | cons t ts ih =>
    intro vs ds ps sig hs h hv
    obtain ⟨v, vs1, d, ds1, a, b, rfl, rfl, rfl, h1, h2⟩ := trodAll_cons h
    cases sig with
    | nil => simp at hs
    | cons s rr =>
      simp only [List.map_cons, List.cons.injEq, Prod.mk.injEq] at hs
      obtain ⟨⟨hs1, hs2⟩, hs3⟩ := hs
      obtain ⟨x, g1, g2⟩ := arg_open (C := C) (nv := nv) hS hs2 h1 (hv 0 t v rfl rfl)
      obtain ⟨zs, g3, g4⟩ := ih vs1 ds1 b rr hs3 h2 fun j t v ht hv' => hv (j + 1) t v (by simpa using ht) (by simpa using hv')
      rw [hs1] at g1
      exact ⟨x :: zs, ⟨x, zs, rfl, g1, g3⟩, ARels.cons g2 g4⟩

theorem ArgHas.one {s : Sh} {a : AV} (h : ArgHas (false, [s]) a) : ∃ x, a = .iv x ∧ Has s x := by
  obtain ⟨xs, h1, h2⟩ := h
  rcases h2 with ⟨h, _⟩ | ⟨_, x, rfl, rfl⟩
  · simp at h
  · obtain ⟨y, q, hq, g, _⟩ := h1.cons_inv
    simp only [List.cons.injEq] at hq
    obtain ⟨rfl, rfl⟩ := hq
    exact ⟨_, rfl, g⟩
theorem ArgHas.agg {L : List Sh} {a : AV} (h : ArgHas (true, L) a) : ∃ xs, a = .agg (xs.map .iv) ∧ HasAll L xs := by
  obtain ⟨xs, h1, h2⟩ := h
  rcases h2 with ⟨_, rfl⟩ | ⟨h, _⟩
  · exact ⟨_, rfl, h1⟩
  · simp at h
/-- W' is W, and more behind it. -/
def More (W W' : World) : Prop := W'.os = W.os ∧ W'.output = W.output ∧ W.heap.size ≤ W'.heap.size ∧ ∀ b, b < W.heap.size → W'.heap[b]? = W.heap[b]?
theorem More.kept {W W' : World} (h : More W W') (may : MemPlace → Prop) : W.keptBut W' may := by
  refine ⟨h.1, h.2.1, fun i hi => ?_⟩
  rw [h.2.2.2 i hi]
  cases W.heap[i]? with
  | none => trivial
  | some o => cases o <;> simp
theorem More.frozen {W W' : World} (h : More W W') {b off : Nat} (hb : b < W.heap.size) : W'.frozen? ⟨b, off, none⟩ = W.frozen? ⟨b, off, none⟩ := by
  unfold World.frozen?
  simp only [h.2.2.2 b hb]
theorem More.sameAt {W W' : World} (h : More W W') {p : MemPlace} (hp : p.block < W.heap.size) : W.sameAt W' p := by
  cases p with
  | cell b off => exact World.cell?_of_block (a := ⟨b, off, none⟩) (h.2.2.2 b hp)
  | map b => exact h.2.2.2 b hp
theorem More.trodAll {W W' : World} (h : More W W') : ∀ {ts : List TypeId} {vs : List Value} {ds : List (DataW H)} {ps : List MemPlace}, DataW.TrodAll enc P W 0 sp held ts vs ds ps → DataW.TrodAll enc P W' 0 sp held ts vs ds ps
  | [], [], [], _, h1 => h1
  | _ :: _, _ :: _, _ :: _, _, ⟨p, q, ⟨n, h1⟩, h2, e⟩ => ⟨p, q, ⟨n, DataW.trod_carry n _ _ _ h1 fun x hx => h.sameAt (DataW.trod_lt n _ _ _ h1 x hx)⟩, h.trodAll h2, e⟩

/-- Behind a run that turned nothing: the row's end. -/
theorem post_of_more {f : Func} {s : ChangeSpec} {apart fresh handsOn again : Bool} {W W' : World} {args : Array Value} {v : Value} {ds gs : List (DataW H)} {before : List MemPlace}
    (hW : DataW.Whole enc P f.params.toList s.vars apart W args.toList ds gs before) (hM : More W W') (hvars : s.vars = [])
    (hres : ∀ (b : Nat) (sp : Nat → Bool) (hd : Bool), DataW.TrodAll enc P W' b sp hd f.resultTypes.toList (v.resultList f.resultTypes.size) (s.fn H (ds ++ gs)).results [])
    (hargs : ∀ sp : Nat → Bool, (∀ p ∈ before, sp p.block = true) → DataW.TrodAll enc P W' 0 sp true f.params.toList args.toList (s.fn H (ds ++ gs)).args before)
    (hv0 : (s.fn H (ds ++ gs)).vars = [])
    (hok : ∀ (j : Nat) (t : TypeId) (r : Value), f.resultTypes[j]? = some t → (v.resultList f.resultTypes.size)[j]? = some r → Value.okWide P W' .any 0 t r) :
    s.post enc P f apart fresh handsOn again W args v W' := by
  have hold : ∀ p ∈ before, (fun b => decide (b < W.heap.size)) p.block = true := fun p hp => by simpa using hW.lt p hp
  have hV : ∀ sp : Nat → Bool, DataW.TrodVars enc P W' sp s.vars (s.fn H (ds ++ gs)).vars [] := fun sp => by rw [hvars, hv0]; exact rfl
  refine ⟨ds, gs, before, [], before, [], hW, hres _ _ _, hargs _ hold, hV _, World.keptBut_mono (fun p hp => ⟨hp, Or.inr (by simpa using hp)⟩) (hM.kept (· ∈ before)), fun _ => ?_⟩
  have hlt := hW.lt
  obtain ⟨_, _, _, _, _, hz, hn⟩ := hW
  refine ⟨hok, _, _, ([] ++ before) ++ [], ⟨[] ++ before, [], trodAll_append (hargs _ (fun _ _ => rfl)) (hres _ _ _), hV _, rfl, ?_, ?_⟩, ?_⟩
  · intro b off hp
    have hp' : MemPlace.cell b off ∈ before := by simpa using hp
    rw [hM.frozen (b := b) (hlt _ hp')]
    exact hz b off hp'
  · intro ha
    simpa using hn ha
  · intro p hp _
    simpa using hp
end

theorem trodAll_len {H : Type} {enc : TypeId × Value → H} {P : Program} {w : World} {base : Nat} {sp : Nat → Bool} {held : Bool} : ∀ {ts : List TypeId} {vs : List Value} {ds : List (DataW H)} {ps : List MemPlace}, DataW.TrodAll enc P w base sp held ts vs ds ps → ds.length = ts.length
  | [], [], [], _, _ => rfl
  | _ :: _, _ :: _, _ :: _, _, ⟨_, _, _, h2, _⟩ => by simp [trodAll_len h2]

/-- The lifted row of a law that gives true and turns nothing. -/
theorem law_lifted {a : Assume} {C : Checked} {os : Os} {f : FuncId} {fn : Func} {s : ChangeSpec} {conds : List PathCond} {apart fresh handsOn again : Bool} {H : Type} {enc : TypeId × Value → H}
    (own : ownKnob C.prog.godebug = none) (started : os.Started) (noInit : C.prog.inits.idxOf? f = none) (hfn : C.prog.funcs[f]? = some fn)
    (witness : ∃ (w : World) (tape : Tape) (i : Input), w.os = os ∧ (w.forCall tape i).Shaped C.prog ∧ i.vars = [] ∧ Input.okWide C.prog (w.forCall tape i) .any w.heap.size f i ∧
      s.pre6 enc C.prog fn conds apart (w.forCall tape i).memory i.args ∧ a.holds C.prog (lone (Frame.enter C.prog f i.args .normal) [] (w.forCall tape i)))
    (hl : laidOutB C.prog = true) (hm : mapsRowed C.prog = true)
    (hz : ((List.range C.prog.types.size).all fun t => match C.prog.underlying t with | some (.slice e) => decide (0 < C.prog.cellsOf e) | _ => true) = true)
    (hts : (fn.params.toList.all fun t => decide (t < C.prog.types.size)) = true) (hvars : s.vars = [])
    (hspec : ∀ ds : List (DataW H), ds.length = fn.params.size → s.fn H ds = { results := [.lit (.bool true)], args := ds })
    {tb : TypeId} (hres : fn.resultTypes = #[tb]) (hb : C.prog.underlying tb = some .bool)
    {sig : List (Bool × List Sh)} {m : Nat} (hsig : fn.params.toList.map (fun t => (isAg C.prog t, shOf C.prog m t)) = sig.map (fun s => (s.1, some s.2)))
    {hd : Hdl} (hok : HdOk C.prog hd) (hlaw : ∀ zs, ArgsHas sig zs → hd f zs ⟨[], 0⟩ = some (.b true, ⟨[], 0⟩)) :
    ReturnsInHanded a C os f .any (s.pre6 enc C.prog fn conds apart) (s.post enc C.prog fn apart fresh handsOn again) := by
  refine returnsInHanded_of_change own started noInit hfn witness ?_
  intro W base args ds gs before hval hW _ _
  have hW' := hW
  obtain ⟨p, q, hA, hV, rfl, _, _⟩ := hW
  rw [hvars] at hV
  obtain ⟨rfl, rfl⟩ := trodVars_none hV
  have hlen : ds.length = fn.params.size := by simpa using trodAll_len hA
  obtain ⟨zs, hzs, _⟩ := args_open (S := fun _ => False) (C := fun _ => none) (nv := 0) (fun b h => h) _ _ _ _ sig hsig hA (fun j t v ht hv => hval j t v (by simpa using ht) (by simpa using hv))
  have hrel : ∀ (S : Nat → Prop) (C' : Conc), (∀ b, ¬ S b) → ∃ zs, ArgsHas sig zs ∧ ARels W S C' 0 zs args.toList := fun S C' hS =>
    args_open (S := S) (C := C') (nv := 0) hS _ _ _ _ sig hsig hA (fun j t v ht hv => hval j t v (by simpa using ht) (by simpa using hv))
  have hG : Given ⟨[], 0⟩ := ⟨fun k o h => by simp at h, rfl⟩
  obtain ⟨zs2, hzs2, hrel2⟩ := hrel (Shut (fun _ => False) (fun _ => none)) (fun _ => none) (fun b h => by
      rcases h with h | ⟨_, _, _, _, h, _⟩
      · exact h
      · simp at h)
  have T := ((hok f zs2 ⟨[], 0⟩ _ _ hG (hlaw zs2 hzs2)).1).2 (fun _ => False) W (fun _ => none) args.toList
    ⟨fun k o h => by simp at h, fun k k' b h => by obtain ⟨_, _, _, h, _⟩ := h; simp at h, fun b h => by obtain ⟨_, _, _, _, h, _⟩ := h; simp at h, fun k _ => .inl rfl, fun b h => h.elim, fun b h => h.elim⟩ hrel2
  have e : args.toList.toArray = args := by simp
  rw [e] at T
  refine T.mono fun en w' hen => ?_
  obtain ⟨u, C', rfl, _, hu, hp⟩ := hen
  have hub := hu.inv_iv.inv_bool
  subst hub
  have hM : More W w' := ⟨hp.os, hp.output, hp.size, fun b hb => hp.blk b hb fun hl => by obtain ⟨_, _, _, _, h, _⟩ := hl; simp at h⟩
  refine ⟨_, rfl, ?_⟩
  have hs := hspec (ds ++ []) (by simpa using hlen)
  refine post_of_more hW' hM hvars (fun b sp hd => ?_) (fun sp hsp => ?_) (by rw [hs]) (ok_one hres rfl (okWide_bool_mk hb true))
  · rw [hs, hres]
    exact trodAll_mk1 (shut_bool hb true)
  · rw [hs]
    simp only [List.append_nil] at hsp ⊢
    exact DataW.TrodAll.respare (kids_rows hl hm) (slices_full_of C.prog hz) (fun t ht => by simpa using List.all_eq_true.1 hts t ht) (hM.trodAll hA) hsp
end Go.Om
