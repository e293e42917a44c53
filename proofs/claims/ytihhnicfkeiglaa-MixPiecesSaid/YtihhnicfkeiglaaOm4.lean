/-
  Om: each instruction does what the model's operation does. What only reads, and what makes an object.
-/
import Derived.Test.YtihhnicfkeiglaaOm3
set_option linter.all false
namespace Go.Om
open Go Go.RowKit

structure Res (X : Nat → Prop) (w : World) (C : Conc) (h : Hp) (mod : List Nat) (v : AV) (h' : Hp) (u : Value) (w' : World) (C' : Conc) : Prop where
  D : Delta X w C h.nv mod h.objs.length h'.objs.length w' C' h'.nv
  r : ARel w' (Shut X C') C' h'.nv v u
  objs : ∀ k o, (k ∈ mod ∨ h.objs.length ≤ k) → h'.objs[k]? = some o → ObjOk w' (Shut X C') C' h'.nv k o
  old : ∀ k, k < h.objs.length → k ∉ mod → h'.objs[k]? = h.objs[k]?
  len : h.objs.length ≤ h'.objs.length

/-- What an operation needs of the state. -/
structure Pre (X : Nat → Prop) (w : World) (C : Conc) (h : Hp) (K : List Nat) (hi : Nat) : Prop where
  ok : ∀ k o, k ∈ K → h.objs[k]? = some o → ObjOk w (Shut X C) C h.nv k o
  dist : ∀ k k' b, OwnsB C k b → OwnsB C k' b → k = k'
  lt : ∀ b, LiveB C b → b < w.heap.size
  free : Free C h.objs.length hi
  xlt : ∀ b, X b → b < w.heap.size

section
variable {P : Program} {X : Nat → Prop} {w w' : World} {C C' : Conc} {h h' : Hp} {v : AV} {u : Value} {K mod : List Nat}

theorem Res.pure (hr : ARel w (Shut X C) C h.nv v u) : Res X w C h [] v h u w C :=
  ⟨Delta.refl _ _ _ _ _, hr, fun k o hk ho => by
    rcases hk with hk | hk
    · simp at hk
    · rw [List.getElem?_eq_none hk] at ho; simp at ho, fun _ _ _ => rfl, Nat.le_refl _⟩

theorem Delta.more {nv nv' lo hi : Nat} {mod' : List Nat} (hf : Free C lo hi) (D : Delta X w C nv mod lo hi w' C' nv') (hm : ∀ k ∈ mod, k ∈ mod') : Delta X w C nv mod' lo hi w' C' nv' :=
  { D with
    blk := fun b hb hk => D.blk b hb (fun k h1 => hk k (hm k h1))
    same := fun k hk hn => D.same k (hk.imp (fun hk h1 => hk (hm k h1)) id) hn
    turned := fun k co _ hc => by
      by_cases h1 : k ∈ mod
      · exact D.turned k co h1 hc
      · by_cases hn : lo ≤ k ∧ k < hi
        · obtain ⟨co', h2, h3⟩ := D.fresh k hn.1 hn.2 (hf k hn.1 hn.2)
          exact ⟨co', h2, .inr h3⟩
        · exact ⟨co, by rw [D.same k (.inl h1) hn]; exact hc, .inl rfl⟩ }

/-- The same, told of more objects that may have turned. -/
theorem Res.more (pre : Pre X w C h K h'.objs.length) {mod' : List Nat} (R : Res X w C h mod v h' u w' C') (hm : ∀ k ∈ mod, k ∈ mod') (hK : ∀ k ∈ mod', k ∈ K) : Res X w C h mod' v h' u w' C' :=
  ⟨R.D.more pre.free hm, R.r, fun k o hk ho => by
    by_cases h1 : k ∈ mod ∨ h.objs.length ≤ k
    · exact R.objs k o h1 ho
    · have h2 : k ∉ mod := fun hh => h1 (.inl hh)
      have h3 : k < h.objs.length := by
        have := fun hh => h1 (.inr hh)
        omega
      have hk' : k ∈ mod' := hk.resolve_right (by omega)
      rw [R.old k h3 h2] at ho
      exact R.D.obj pre.free pre.dist pre.lt h2 (pre.ok k o (hK k hk') ho), fun k hk hm' => R.old k hk (fun h1 => hm' (hm k h1)), R.len⟩

/-! ### a new object -/
def setC (C : Conc) (k : Nat) (co : CO) : Conc := fun n => if n = k then some co else C n
theorem setC_same (C : Conc) (k : Nat) (co : CO) : setC C k co k = some co := by simp [setC]
theorem setC_ne (C : Conc) {k n : Nat} (co : CO) (h : n ≠ k) : setC C k co n = C n := by simp [setC, h]
theorem alloc_heap (w : World) (o : Go.Obj) : (w.alloc o).heap = w.heap.push o := rfl

/-- A block is made, for object k. -/
theorem Delta.new {nv lo : Nat} (pre : Free C lo (lo + 1)) (hlt : ∀ b, LiveB C b → b < w.heap.size) (o : Go.Obj) (ver : Nat) (val : Value) (sz : Nat) (hv : nv ≤ ver) (hb : blkOf val = some w.heap.size ∨ blkOf val = none) :
    Delta X w C nv [] lo (lo + 1) (w.alloc o) (setC C lo (.live ver val sz)) (ver + 1) where
  os := rfl
  tape := rfl
  output := rfl
  size := by simp
  blk := fun b hb _ => Below.heap_alloc w o b hb
  same := fun k _ hn => setC_ne C _ (by omega)
  turned := fun k co hk => by simp at hk
  fresh := fun k h1 h2 _ => by
    have : k = lo := by omega
    subst this
    exact ⟨_, setC_same _ _ _, fun ver' v sz e => by cases e; exact hv⟩
  liveB := fun b ⟨k, ver', v, sz', hc, hbk⟩ => by
    by_cases hk : k = lo
    · subst hk
      rw [setC_same] at hc
      cases hc
      rcases hb with hb | hb
      · rw [hb] at hbk; cases hbk; exact .inr (Nat.le_refl _)
      · rw [hb] at hbk; cases hbk
    · rw [setC_ne C _ hk] at hc
      exact .inl ⟨k, ver', v, sz', hc, hbk⟩
  dist := fun hd _ k k' b ⟨ver1, v1, sz1, hc1, hb1⟩ ⟨ver2, v2, sz2, hc2, hb2⟩ => by
    by_cases hk : k = lo <;> by_cases hk' : k' = lo
    · rw [hk, hk']
    · subst hk
      rw [setC_same] at hc1
      rw [setC_ne C _ hk'] at hc2
      cases hc1
      have h2 := hlt b ⟨k', _, _, _, hc2, hb2⟩
      rcases hb with hb | hb <;> rw [hb] at hb1 <;> cases hb1
      omega
    · subst hk'
      rw [setC_same] at hc2
      rw [setC_ne C _ hk] at hc1
      cases hc2
      have h2 := hlt b ⟨k, _, _, _, hc1, hb1⟩
      rcases hb with hb | hb <;> rw [hb] at hb2 <;> cases hb2
      omega
    · rw [setC_ne C _ hk] at hc1
      rw [setC_ne C _ hk'] at hc2
      exact hd k k' b ⟨_, _, _, hc1, hb1⟩ ⟨_, _, _, hc2, hb2⟩
  lt := fun hl b ⟨k, ver', v, sz', hc, hbk⟩ => by
    by_cases hk : k = lo
    · subst hk
      rw [setC_same] at hc
      cases hc
      rcases hb with hb | hb <;> rw [hb] at hbk <;> cases hbk
      simp
    · rw [setC_ne C _ hk] at hc
      have := hl b ⟨k, _, _, _, hc, hbk⟩
      simp
      omega
  nv := by omega

theorem Res.newBox (pre : Pre X w C h K (h.objs.length + 1)) (e : Nat) {cs : List AV} {us : List Value} (hr : ARels w (Shut X C) C h.nv cs us) :
    Res X w C h [] (.ptr h.objs.length h.nv 0 0) ⟨h.objs ++ [.box e h.nv cs], h.nv + 1⟩ (.pointer (some ⟨w.heap.size, 0, none⟩)) (w.alloc (.cells us.toArray e (0, 0)))
      (setC C h.objs.length (.live h.nv (.pointer (some ⟨w.heap.size, 0, none⟩)) 0)) := by
  have D := Delta.new (X := X) (w := w) (nv := h.nv) pre.free pre.lt (.cells us.toArray e (0, 0)) h.nv (.pointer (some ⟨w.heap.size, 0, none⟩)) 0 (Nat.le_refl _) (.inl rfl)
  have E := D.ext pre.free
  refine ⟨by simpa using D, ?_, ?_, ?_, by simp⟩
  · exact .ptr _ _ _ _ _ _ (Nat.lt_succ_self _) (setC_same _ _ _) ⟨_, rfl⟩ fun v sz hh => by cases hh; exact ⟨w.heap.size, rfl, by simp⟩
  · intro k o hk ho
    have hk : h.objs.length ≤ k := hk.resolve_left (by simp)
    simp only at ho
    rw [List.getElem?_append_right hk] at ho
    have : k - h.objs.length = 0 := by
      have := (List.getElem?_eq_some_iff.1 ho).1
      simp at this
      omega
    rw [this] at ho
    simp at ho
    subst ho
    have hk : k = h.objs.length := by omega
    subst hk
    exact ⟨Nat.lt_succ_self _, w.heap.size, us, setC_same _ _ _, heap_alloc_new w _, hr.ext E⟩
  · intro k hk _
    exact List.getElem?_append_left hk

theorem oneCell_IRel {S : Nat → Prop} {x : IV} {u : Value} (hr : IRel w S x u) : u.oneCell' = true := by cases hr <;> rfl

theorem Res.newRow (pre : Pre X w C h K (h.objs.length + 1)) (e sz : Nat) (he : e < 4294967296) (hz : 0 < sz) {es : List (List IV)} {us extra : List Value} (cap : Nat) (hr : RowRel w (Shut X C) sz es us) (hl : us.length = es.length * sz)
    (hcap : es.length ≤ cap) (hm : cap ≤ maxLen) (hx : us.length + extra.length = cap * sz) :
    Res X w C h [] (.osl h.objs.length h.nv) ⟨h.objs ++ [.row e sz h.nv es], h.nv + 1⟩ (.slice (some ⟨w.heap.size, 0, none⟩) es.length cap) (w.alloc (.cells (us ++ extra).toArray e (0, 0)))
      (setC C h.objs.length (.live h.nv (.slice (some ⟨w.heap.size, 0, none⟩) es.length cap) sz)) := by
  have D := Delta.new (X := X) (w := w) (nv := h.nv) pre.free pre.lt (.cells (us ++ extra).toArray e (0, 0)) h.nv (.slice (some ⟨w.heap.size, 0, none⟩) es.length cap) sz (Nat.le_refl _) (.inl rfl)
  have E := D.ext pre.free
  refine ⟨by simpa using D, ?_, ?_, ?_, by simp⟩
  · exact .osl _ _ _ _ (Nat.lt_succ_self _) (setC_same _ _ _) rfl fun v sz hh => by cases hh; rfl
  · intro k o hk ho
    have hk : h.objs.length ≤ k := hk.resolve_left (by simp)
    simp only at ho
    rw [List.getElem?_append_right hk] at ho
    have : k - h.objs.length = 0 := by
      have := (List.getElem?_eq_some_iff.1 ho).1
      simp at this
      omega
    rw [this] at ho
    simp at ho
    subst ho
    have hk : k = h.objs.length := by omega
    subst hk
    refine ⟨Nat.lt_succ_self _, hz, _, us, setC_same _ _ _, (held_iff he).1 ⟨hl, .inr ⟨w.heap.size, cap, (us ++ extra).toArray, rfl, Nat.zero_le _, heap_alloc_new w _, hcap, hm, by simp; omega, ?_⟩⟩, ObjOk.mono_row E.lasts hr⟩
    simp [hl]
  · intro k hk _
    exact List.getElem?_append_left hk

/-- A row that is no block yet. -/
theorem Res.newNil (pre : Pre X w C h K (h.objs.length + 1)) (e sz : Nat) (hz : 0 < sz) : 
    Res X w C h [] (.osl h.objs.length h.nv) ⟨h.objs ++ [.row e sz h.nv []], h.nv + 1⟩ (.slice none 0 0) w
      (setC C h.objs.length (.live h.nv (.slice none 0 0) sz)) := by
  have D0 := Delta.new (X := X) (w := w) (nv := h.nv) pre.free pre.lt (.cells #[] e (0, 0)) h.nv (.slice none 0 0) sz (Nat.le_refl _) (.inr rfl)
  have D : Delta X w C h.nv [] h.objs.length (h.objs.length + 1) w (setC C h.objs.length (.live h.nv (.slice none 0 0) sz)) (h.nv + 1) :=
    { D0 with
      os := rfl
      tape := rfl
      output := rfl
      size := Nat.le_refl _
      blk := fun _ _ _ => rfl
      lt := fun hl b ⟨k, ver', v, sz', hc, hbk⟩ => by
        by_cases hk : k = h.objs.length
        · subst hk
          rw [setC_same] at hc
          cases hc
          cases hbk
        · rw [setC_ne C _ hk] at hc
          exact hl b ⟨k, _, _, _, hc, hbk⟩ }
  refine ⟨by simpa using D, ?_, ?_, ?_, by simp⟩
  · exact .osl _ _ _ _ (Nat.lt_succ_self _) (setC_same _ _ _) rfl fun v sz hh => by cases hh; rfl
  · intro k o hk ho
    have hk : h.objs.length ≤ k := hk.resolve_left (by simp)
    simp only at ho
    rw [List.getElem?_append_right hk] at ho
    have : k - h.objs.length = 0 := by
      have := (List.getElem?_eq_some_iff.1 ho).1
      simp at this
      omega
    rw [this] at ho
    simp at ho
    subst ho
    have hk : k = h.objs.length := by omega
    subst hk
    exact ⟨Nat.lt_succ_self _, hz, _, [], setC_same _ _ _, ⟨by simp, .inl ⟨rfl, rfl⟩⟩, fun i e hh => by simp at hh, fun i e j x u hh => by simp at hh⟩
  · intro k hk _
    exact List.getElem?_append_left hk
end
end Go.Om
