/-
  Om: a whole state, a call's contract, and what is handed over at a call.
-/
import Derived.Test.YtihhnicfkeiglaaOm14
import Derived.Shelf.Abstract
set_option linter.all false
namespace Go.Om
open Go Go.RowKit

structure Tot (X : Nat → Prop) (w : World) (C : Conc) (h : Hp) : Prop where
  ok : ∀ k o, h.objs[k]? = some o → ObjOk w (Shut X C) C h.nv k o
  dist : ∀ k k' b, OwnsB C k b → OwnsB C k' b → k = k'
  lt : ∀ b, LiveB C b → b < w.heap.size
  out : ∀ k, h.objs.length ≤ k → C k = none ∨ C k = some .dead
  xlt : ∀ b, X b → b < w.heap.size
  xdist : ∀ b, X b → ¬ LiveB C b

/-- From the begin of a piece of code to its end. -/
structure Post (X : Nat → Prop) (w : World) (C : Conc) (nv : Nat) (w' : World) (C' : Conc) (nv' : Nat) : Prop where
  os : w'.os = w.os
  tape : w'.tape = w.tape
  output : w'.output = w.output
  size : w.heap.size ≤ w'.heap.size
  blk : ∀ b, b < w.heap.size → ¬ LiveB C b → w'.heap[b]? = w.heap[b]?
  liveB : ∀ b, LiveB C' b → LiveB C b ∨ w.heap.size ≤ b
  keep : ∀ k co, C k = some co → ∃ co', C' k = some co' ∧ Later nv co co'
  nv : nv ≤ nv'

section
variable {P : Program} {X : Nat → Prop} {w w' w'' : World} {C C' C'' : Conc} {h h' : Hp} {v : AV} {u : Value} {nv nv' nv'' : Nat} {S : Nat → Prop}

theorem Post.refl (X : Nat → Prop) (w : World) (C : Conc) (nv : Nat) : Post X w C nv w C nv := ⟨rfl, rfl, rfl, Nat.le_refl _, fun _ _ _ => rfl, fun _ h => .inl h, fun _ co h => ⟨co, h, .inl rfl⟩, Nat.le_refl _⟩
theorem Post.trans (a : Post X w C nv w' C' nv') (b : Post X w' C' nv' w'' C'' nv'') : Post X w C nv w'' C'' nv'' where
  os := b.os.trans a.os
  tape := b.tape.trans a.tape
  output := b.output.trans a.output
  size := Nat.le_trans a.size b.size
  blk := fun n hn hl => by
    have hl' : ¬ LiveB C' n := fun hh => by
      rcases a.liveB n hh with h1 | h1
      · exact hl h1
      · omega
    rw [b.blk n (Nat.lt_of_lt_of_le hn a.size) hl', a.blk n hn hl]
  liveB := fun n hn => by
    rcases b.liveB n hn with h1 | h1
    · exact a.liveB n h1
    · exact .inr (Nat.le_trans a.size h1)
  keep := fun k co hc => by
    obtain ⟨co1, h1, l1⟩ := a.keep k co hc
    obtain ⟨co2, h2, l2⟩ := b.keep k co1 h1
    refine ⟨co2, h2, ?_⟩
    rcases l2 with rfl | l2
    · exact l1
    · exact .inr fun ver v sz e => Nat.le_trans a.nv (l2 ver v sz e)
  nv := Nat.le_trans a.nv b.nv
theorem Post.ext (a : Post X w C nv w' C' nv') : Ext w (Shut X C) C nv w' (Shut X C') C' nv' where
  lasts := ⟨fun b o u hs hc => by
    have hlt := cell_lt hc
    have hb := a.blk b hlt (fun hl => hs (.inr hl))
    refine ⟨fun hs' => ?_, by rw [World.cell?_of_block (w := w) (w' := w') (a := ⟨b, o, none⟩) hb]; exact hc⟩
    rcases hs' with hx | hl
    · exact hs (.inl hx)
    · rcases a.liveB b hl with h | h
      · exact hs (.inr h)
      · omega⟩
  keep := a.keep
  nv := a.nv
theorem Delta.post {mod : List Nat} {lo hi : Nat} (D : Delta X w C nv mod lo hi w' C' nv') (hf : Free C lo hi) : Post X w C nv w' C' nv' :=
  ⟨D.os, D.tape, D.output, D.size, fun b hb hl => D.blk b hb (fun k _ ho => hl ⟨k, ho⟩), D.liveB, (D.ext hf).keep, D.nv⟩

/-- A call's contract. -/
def Trip (P : Program) (f : Nat) (args : List AV) (h : Hp) (v : AV) (h' : Hp) : Prop :=
  Go.Proofs.Enters P f ∧ ∀ (X : Nat → Prop) (w : World) (C : Conc) (us : List Value), Tot X w C h → ARels w (Shut X C) C h.nv args us →
    Calls P f us.toArray w fun en w' => ∃ u C', en = .returned u ∧ Tot X w' C' h' ∧ ARel w' (Shut X C') C' h'.nv v u ∧ Post X w C h.nv w' C' h'.nv

/-- What is handed over: boxes alone, each with its place for a stamp. -/
def Given (h : Hp) : Prop := (∀ (k : Nat) (o : Obj), h.objs[k]? = some o → ∃ e cs, o = .box e k cs) ∧ h.nv = h.objs.length
/-- What comes back behind them: rows alone. -/
def Gave (n : Nat) (h' : Hp) : Prop := (∀ (k : Nat) (o : Obj), n ≤ k → h'.objs[k]? = some o → ∃ e sz es, o = .row e sz k es) ∧ h'.nv = h'.objs.length ∧ n ≤ h'.objs.length
def HdOk (P : Program) (hd : Hdl) : Prop := ∀ f args h v h', Given h → hd f args h = some (v, h') → Trip P f args h v h' ∧ Gave h.objs.length h'

theorem IRel.anti {S S' : Nat → Prop} (hS : ∀ b, S' b → S b) {x : IV} (hr : IRel w S x u) : IRel w S' x u := hr.lasts ⟨fun b o u h g => ⟨fun hh => h (hS b hh), g⟩⟩
theorem View.irel {S S' : Nat → Prop} {es : List (List IV)} (hv : View w S es u) (hS : ∀ b, S' b → S b) (hb : ∀ (b off n c : Nat), u = .slice (some ⟨b, off, none⟩) n c → es.length ≠ 0 → ¬ S' b) : IRel w S' (.sl es) u := by
  obtain ⟨a, c, rfl, hle, h2⟩ := hv
  by_cases h0 : es.length = 0
  · have : es = [] := List.eq_nil_of_length_eq_zero h0
    subst this
    exact .nil _ _
  · rcases h2 with h2 | ⟨b, off, sz, g, rfl, hs, hc⟩
    · omega
    · exact .sl es b off c sz g hle hs (fun i d j x h1 h3 => ⟨hb b off _ c rfl h0, (hc i d j x h1 h3).1⟩) (fun i d j x h1 h3 => (hc i d j x h1 h3).2.anti hS)

/-- The caller's boxes, as the callee numbers them. -/
def subC (C : Conc) (ks : List Nat) : Conc := fun i => match ks[i]? with
  | some k => match C k with
    | some (.live _ v sz) => some (.live i v sz)
    | x => x
  | none => none
theorem subC_owns {ks : List Nat} {i b : Nat} (ho : OwnsB (subC C ks) i b) : ∃ k, ks[i]? = some k ∧ OwnsB C k b := by
  obtain ⟨ver, val, sz, hc, hb⟩ := ho
  unfold subC at hc
  split at hc
  · rename_i k hk
    split at hc
    · rename_i v2 val2 sz2 h2
      cases hc
      exact ⟨k, hk, _, _, _, h2, hb⟩
    · exact ⟨k, hk, _, _, _, hc, hb⟩
  · simp at hc
theorem subC_live {ks : List Nat} {b : Nat} (hl : LiveB (subC C ks) b) : LiveB C b := by
  obtain ⟨i, ho⟩ := hl
  obtain ⟨k, _, hk⟩ := subC_owns ho
  exact ⟨k, hk⟩

/-- The callee may not look where the caller owns. -/
def subX (X : Nat → Prop) (C : Conc) (ks : List Nat) (lent : Bool) : Nat → Prop := fun b => lent = false ∧ Shut X C b ∧ ¬ LiveB (subC C ks) b
theorem subX_anti {ks : List Nat} {lent : Bool} (b : Nat) (hb : Shut (subX X C ks lent) (subC C ks) b) : Shut X C b := by
  rcases hb with hb | hb
  · exact hb.2.1
  · exact .inr (subC_live hb)

structure ArgPre (X : Nat → Prop) (w : World) (C : Conc) (h : Hp) (K : Nat → Prop) (ks : List Nat) : Prop where
  ok : ∀ k o, K k → h.objs[k]? = some o → ObjOk w (Shut X C) C h.nv k o
  dist : ∀ k k' b, OwnsB C k b → OwnsB C k' b → k = k'
  boxes : ∀ (i k : Nat), ks[i]? = some k → ∃ e v cs, h.objs[k]? = some (.box e v cs)

theorem argC_mono {a a' : AV} {ks ks' : List Nat} {l : Bool} (hc : argC h a ks = some (a', ks', l)) : ∃ t, ks' = ks ++ t := by
  unfold argC at hc
  split at hc
  · cases hc; exact ⟨[], by simp⟩
  · cases hc; exact ⟨[], by simp⟩
  · obtain ⟨es, _, h2⟩ := map_some hc; cases h2; exact ⟨[], by simp⟩
  · obtain ⟨es, _, h2⟩ := map_some hc; cases h2; exact ⟨[], by simp⟩
  · split at hc
    · split at hc
      · split at hc
        · cases hc; exact ⟨[], by simp⟩
        · cases hc; exact ⟨_, rfl⟩
      · simp at hc
    · simp at hc
  · simp at hc

theorem argC_rel {K : Nat → Prop} {a a' : AV} {ks ks' Ks : List Nat} {l lent : Bool} (pre : ArgPre X w C h K Ks) (hc : argC h a ks = some (a', ks', l)) (hl : l = true → lent = true) (hK : ∀ k, k ∈ refs1 a → K k) (hpre : ∃ t, Ks = ks' ++ t) (hr : ARel w (Shut X C) C h.nv a u) :
    ARel w (Shut (subX X C Ks lent) (subC C Ks)) (subC C Ks) Ks.length a' u := by
  have rowcase : ∀ es, elemsOf h a = some es → (∀ k, k ∈ refs1 a → ∃ e sz v es', h.objs[k]? = some (.row e sz v es')) → refs a = refs1 a → l = true →
      (∀ (b off n c : Nat), u = .slice (some ⟨b, off, none⟩) n c → es.length ≠ 0 → ∃ k, k ∈ refs1 a ∧ OwnsB C k b) → ARel w (Shut (subX X C Ks lent) (subC C Ks)) (subC C Ks) Ks.length (.iv (.sl es)) u := by
    intro es he hrow hrefs hlt hblk
    have hv := elemsOf_rel he (fun k o hk ho => pre.ok k o (hK k (by rw [← hrefs]; exact hk)) ho) hr
    refine .iv (hv.irel subX_anti fun b off n c hu h0 hs => ?_)
    obtain ⟨k, hk, ho⟩ := hblk b off n c hu h0
    rcases hs with hs | ⟨i, hs⟩
    · rw [hl hlt] at hs
      exact absurd hs.1 (by simp)
    · obtain ⟨k', hk', ho'⟩ := subC_owns hs
      have : k' = k := pre.dist _ _ b ho' ho
      subst this
      obtain ⟨e1, v1, cs1, hb⟩ := pre.boxes i k' hk'
      obtain ⟨e2, sz2, v2, es2, hb2⟩ := hrow k' hk
      rw [hb] at hb2
      simp at hb2
  unfold argC at hc
  split at hc
  · cases hc
    exact .iv (hr.inv_iv.anti subX_anti)
  · cases hc
    cases hr
    exact .iv (.nil _ _)
  · rename_i k ver
    obtain ⟨es, he, h2⟩ := map_some hc
    cases h2
    refine rowcase es he ?_ rfl rfl ?_
    · intro k' hk'
      simp [refs1] at hk'
      subst hk'
      simp only [elemsOf] at he
      obtain ⟨r, hrow, _⟩ := map_some he
      obtain ⟨t, sz, es'⟩ := r
      exact ⟨t, sz, ver, es', (rowAt_rel hrow (fun o ho => pre.ok _ o (hK _ (by simp [refs1])) ho)).1⟩
    · intro b off n c hu h0
      refine ⟨k, by simp [refs1], ?_⟩
      simp only [elemsOf] at he
      obtain ⟨r, hrow, rfl⟩ := map_some he
      obtain ⟨t, sz, es'⟩ := r
      obtain ⟨_, _, _, val, us, hC, hown, _⟩ := rowAt_rel hrow (fun o ho => pre.ok _ o (hK _ (by simp [refs1])) ho)
      obtain ⟨_, _, co, hco, h3⟩ := hr.inv_osl
      rw [hC] at hco
      cases hco
      have hv := h3 _ _ rfl
      rw [hu] at hv
      exact ⟨_, _, _, hC, by rw [← hv]; rfl⟩
  · rename_i k ver off len
    obtain ⟨es, he, h2⟩ := map_some hc
    cases h2
    refine rowcase es he ?_ rfl rfl ?_
    · intro k' hk'
      simp [refs1] at hk'
      subst hk'
      simp only [elemsOf] at he
      obtain ⟨r, hrow, _⟩ := bind_some he
      obtain ⟨t, sz, es'⟩ := r
      exact ⟨t, sz, ver, es', (rowAt_rel hrow (fun o ho => pre.ok _ o (hK _ (by simp [refs1])) ho)).1⟩
    · intro b off' n c hu h0
      refine ⟨k, by simp [refs1], ?_⟩
      simp only [elemsOf] at he
      obtain ⟨r, hrow, he2⟩ := bind_some he
      obtain ⟨t, sz, es'⟩ := r
      obtain ⟨_, _, _, val, us, hC, hown, _⟩ := rowAt_rel hrow (fun o ho => pre.ok _ o (hK _ (by simp [refs1])) ho)
      obtain ⟨_, _, co, hco, h3⟩ := hr.inv_osub
      rw [hC] at hco
      cases hco
      obtain ⟨a, c', hu2, _, h4⟩ := h3 _ _ rfl
      split at he2
      · cases he2
        rcases h4 with h4 | ⟨g, n', cap, rfl, rfl⟩
        · simp at h0
          omega
        · rw [hu] at hu2
          cases hu2
          exact ⟨_, _, _, hC, rfl⟩
      · simp at he2
  · rename_i k ver
    split at hc
    · rename_i t v' cs hk
      split at hc
      · rename_i hv
        subst hv
        obtain ⟨hvl, g, us, hC, hg, _⟩ := pre.ok k _ (hK k (by simp [refs1])) hk
        obtain ⟨_, _, co, hco, h3⟩ := hr.inv_ptr
        rw [hC] at hco
        cases hco
        obtain ⟨g', hg', hu⟩ := h3 _ _ rfl
        simp only [blkOf, Option.some.injEq] at hg'
        subst hg'
        have key : ∀ i, Ks[i]? = some k → ARel w (Shut (subX X C Ks lent) (subC C Ks)) (subC C Ks) Ks.length (.ptr i i 0 0) u := by
          intro i hi
          have hs : subC C Ks i = some (.live i (.pointer (some ⟨g, 0, none⟩)) 0) := by simp [subC, hi, hC]
          refine .ptr _ _ _ _ _ _ (List.getElem?_eq_some_iff.1 hi).1 hs ⟨_, hu⟩ fun vv sz e => ?_
          cases e
          exact ⟨g, rfl, by rw [hu]⟩
        obtain ⟨t, rfl⟩ := hpre
        split at hc
        · rename_i i hi
          cases hc
          refine key i ?_
          obtain ⟨h1, h2, _⟩ := List.idxOf?_eq_some_iff.1 hi
          rw [List.getElem?_append_left h1, List.getElem?_eq_getElem h1, h2]
        · cases hc
          exact key _ (by simp)
      · simp at hc
    · simp at hc
  · simp at hc
end
end Go.Om
