/-
  Om: what an abstract value says of a value of the model, in a world; how it lasts.
-/
import Derived.Test.YtihhnicfkeiglaaOm2
import Derived.WalkKit
set_option linter.all false
namespace Go.Om
open Go Go.RowKit

/-- Where an owned object lies: its stamp, the pointer to it (a box) or the slice value (a row), the size of an element. -/
inductive CO where
  | live (ver : Nat) (v : Value) (sz : Nat)
  | dead
abbrev Conc := Nat → Option CO

def blkOf : Value → Option Nat
  | .pointer (some a) => some a.block
  | .slice (some a) _ _ => some a.block
  | _ => none
def OwnsB (C : Conc) (k b : Nat) : Prop := ∃ ver v sz, C k = some (.live ver v sz) ∧ blkOf v = some b
def LiveB (C : Conc) (b : Nat) : Prop := ∃ k, OwnsB C k b
/-- The blocks that no tree may lie in. -/
def Shut (X : Nat → Prop) (C : Conc) (b : Nat) : Prop := X b ∨ LiveB C b

inductive IRel (w : World) (S : Nat → Prop) : IV → Value → Prop
  | int (k : IntKind) (n : Int) : IRel w S (.int k n) (.int k n)
  | bool (b : Bool) : IRel w S (.bool b) (.bool b)
  | str (s : ByteArray) : IRel w S (.str s) (.string s)
  | nil (a : Option Addr) (c : Nat) : IRel w S (.sl []) (.slice a 0 c)
  | sl (es : List (List IV)) (b off c sz : Nat) (g : Nat → Nat → Value) (hc : es.length ≤ c)
      (hl : ∀ (i : Nat) (e : List IV), es[i]? = some e → e.length = sz)
      (hs : ∀ (i : Nat) (e : List IV) (j : Nat) (x : IV), es[i]? = some e → e[j]? = some x → ¬ S b ∧ w.cell? ⟨b, off + (i * sz + j), none⟩ = some (g i j))
      (hr : ∀ (i : Nat) (e : List IV) (j : Nat) (x : IV), es[i]? = some e → e[j]? = some x → IRel w S x (g i j)) :
      IRel w S (.sl es) (.slice (some ⟨b, off, none⟩) es.length c)

/-- What is read stays, and stays open to be read. -/
structure Lasts (w : World) (S : Nat → Prop) (w' : World) (S' : Nat → Prop) : Prop where
  cell : ∀ b o u, ¬ S b → w.cell? ⟨b, o, none⟩ = some u → ¬ S' b ∧ w'.cell? ⟨b, o, none⟩ = some u
theorem Lasts.refl (w : World) (S : Nat → Prop) : Lasts w S w S := ⟨fun _ _ _ h g => ⟨h, g⟩⟩
theorem IRel.lasts {w w' : World} {S S' : Nat → Prop} (H : Lasts w S w' S') {x : IV} {v : Value} (h : IRel w S x v) : IRel w' S' x v := by
  induction h with
  | int k n => exact .int k n
  | bool b => exact .bool b
  | str s => exact .str s
  | nil a c => exact .nil a c
  | sl es b off c sz g hc hl hs hr ih => exact .sl es b off c sz g hc hl (fun i e j x h1 h2 => H.cell _ _ _ (hs i e j x h1 h2).1 (hs i e j x h1 h2).2) ih

/-- A later state of an object: as it was, or of a stamp not used before. -/
def Later (nv : Nat) (co co' : CO) : Prop := co' = co ∨ ∀ ver v sz, co' = .live ver v sz → nv ≤ ver

inductive ARel (w : World) (S : Nat → Prop) (C : Conc) (nv : Nat) : AV → Value → Prop
  | iv {x : IV} {u : Value} (h : IRel w S x u) : ARel w S C nv (.iv x) u
  | nils : ARel w S C nv .nils (.slice none 0 0)
  | agg (cs : List AV) (us : List Value) (hl : cs.length = us.length) (hr : ∀ (j : Nat) (x : AV) (u : Value), cs[j]? = some x → us[j]? = some u → ARel w S C nv x u) : ARel w S C nv (.agg cs) (.agg us.toArray)
  | osl (k ver : Nat) (u : Value) (co : CO) (hv : ver < nv) (hc : C k = some co) (h1 : u.oneCell' = true) (h : ∀ v sz, co = .live ver v sz → u = v) : ARel w S C nv (.osl k ver) u
  | osub (k ver off len : Nat) (u : Value) (co : CO) (hv : ver < nv) (hc : C k = some co) (h1 : u.oneCell' = true)
      (h : ∀ v sz, co = .live ver v sz → ∃ a c, u = .slice a len c ∧ len ≤ c ∧ (len = 0 ∨ ∃ g n cap, v = .slice (some ⟨g, 0, none⟩) n cap ∧ a = some ⟨g, off * sz, none⟩)) : ARel w S C nv (.osub k ver off len) u
  | ptr (k ver i j : Nat) (u : Value) (co : CO) (hv : ver < nv) (hc : C k = some co) (h1 : ∃ a : Addr, u = .pointer (some a))
      (h : ∀ v sz, co = .live ver v sz → ∃ g, blkOf v = some g ∧ u = .pointer (some ⟨g, i * sz + j, none⟩)) : ARel w S C nv (.ptr k ver i j) u
  | iptr (cs : List IV) (b off : Nat) (g : Nat → Value) (hs : ∀ (j : Nat) (x : IV), cs[j]? = some x → ¬ S b ∧ w.cell? ⟨b, off + j, none⟩ = some (g j) ∧ IRel w S x (g j)) : ARel w S C nv (.iptr cs) (.pointer (some ⟨b, off, none⟩))
  | tup (vs : List AV) (us : List Value) (hl : vs.length = us.length) (hr : ∀ (j : Nat) (x : AV) (u : Value), vs[j]? = some x → us[j]? = some u → ARel w S C nv x u) : ARel w S C nv (.tup vs) (.tuple us.toArray)
  | fn (f : Nat) (cs : List AV) (us : List Value) (hl : cs.length = us.length) (hr : ∀ (j : Nat) (x : AV) (u : Value), cs[j]? = some x → us[j]? = some u → ARel w S C nv x u) : ARel w S C nv (.fn f cs) (.func (.func f) #[] us.toArray)
  | un (u : Value) : ARel w S C nv .un u

/-- From one state to a later one: what was said of values is still true. -/
structure Ext (w : World) (S : Nat → Prop) (C : Conc) (nv : Nat) (w' : World) (S' : Nat → Prop) (C' : Conc) (nv' : Nat) : Prop where
  lasts : Lasts w S w' S'
  keep : ∀ k co, C k = some co → ∃ co', C' k = some co' ∧ Later nv co co'
  nv : nv ≤ nv'
theorem Ext.refl (w : World) (S : Nat → Prop) (C : Conc) (nv : Nat) : Ext w S C nv w S C nv := ⟨Lasts.refl _ _, fun _ co h => ⟨co, h, .inl rfl⟩, Nat.le_refl _⟩
theorem ARel.ext {w w' : World} {S S' : Nat → Prop} {C C' : Conc} {nv nv' : Nat} (H : Ext w S C nv w' S' C' nv') {x : AV} {u : Value} (h : ARel w S C nv x u) : ARel w' S' C' nv' x u := by
  induction h with
  | iv h => exact .iv (h.lasts H.lasts)
  | nils => exact .nils
  | agg cs us hl _ ih => exact .agg cs us hl ih
  | osl k ver u co hv hc h1 h =>
    obtain ⟨co', hc', hl⟩ := H.keep k co hc
    refine .osl k ver u co' (Nat.lt_of_lt_of_le hv H.nv) hc' h1 fun v sz e => ?_
    rcases hl with rfl | hl
    · exact h v sz e
    · exact absurd (hl _ _ _ e) (by omega)
  | osub k ver off len u co hv hc h1 h =>
    obtain ⟨co', hc', hl⟩ := H.keep k co hc
    refine .osub k ver off len u co' (Nat.lt_of_lt_of_le hv H.nv) hc' h1 fun v sz e => ?_
    rcases hl with rfl | hl
    · exact h v sz e
    · exact absurd (hl _ _ _ e) (by omega)
  | ptr k ver i j u co hv hc h1 h =>
    obtain ⟨co', hc', hl⟩ := H.keep k co hc
    refine .ptr k ver i j u co' (Nat.lt_of_lt_of_le hv H.nv) hc' h1 fun v sz e => ?_
    rcases hl with rfl | hl
    · exact h v sz e
    · exact absurd (hl _ _ _ e) (by omega)
  | iptr cs b off g hs =>
    refine .iptr cs b off g fun j x hx => ?_
    obtain ⟨h1, h2, h3⟩ := hs j x hx
    exact ⟨(H.lasts.cell _ _ _ h1 h2).1, (H.lasts.cell _ _ _ h1 h2).2, h3.lasts H.lasts⟩
  | tup vs us hl _ ih => exact .tup vs us hl ih
  | fn f cs us hl _ ih => exact .fn f cs us hl ih
  | un u => exact .un u

/-- A list of values, place by place. -/
def ARels (w : World) (S : Nat → Prop) (C : Conc) (nv : Nat) (xs : List AV) (us : List Value) : Prop :=
  xs.length = us.length ∧ ∀ (j : Nat) (x : AV) (u : Value), xs[j]? = some x → us[j]? = some u → ARel w S C nv x u
theorem ARels.ext {w w' : World} {S S' : Nat → Prop} {C C' : Conc} {nv nv' : Nat} (H : Ext w S C nv w' S' C' nv') {xs : List AV} {us : List Value} (h : ARels w S C nv xs us) : ARels w' S' C' nv' xs us :=
  ⟨h.1, fun j x u h1 h2 => (h.2 j x u h1 h2).ext H⟩
theorem ARels.nil {w : World} {S : Nat → Prop} {C : Conc} {nv : Nat} : ARels w S C nv [] [] := ⟨rfl, fun j x u h => by simp at h⟩
theorem ARels.cons {w : World} {S : Nat → Prop} {C : Conc} {nv : Nat} {x : AV} {u : Value} {xs : List AV} {us : List Value} (h : ARel w S C nv x u) (hs : ARels w S C nv xs us) : ARels w S C nv (x :: xs) (u :: us) :=
  ⟨by simp [hs.1], fun j y v h1 h2 => by
    cases j with
    | zero => simp at h1 h2; subst h1; subst h2; exact h
    | succ j => simp at h1 h2; exact hs.2 j y v h1 h2⟩
theorem ARels.uncons {w : World} {S : Nat → Prop} {C : Conc} {nv : Nat} {x : AV} {xs : List AV} {us : List Value} (h : ARels w S C nv (x :: xs) us) : ∃ u ur, us = u :: ur ∧ ARel w S C nv x u ∧ ARels w S C nv xs ur := by
  obtain ⟨hl, hr⟩ := h
  cases us with
  | nil => simp at hl
  | cons u ur => exact ⟨u, ur, rfl, hr 0 x u rfl rfl, by simpa using hl, fun j y v h1 h2 => hr (j + 1) y v (by simpa using h1) (by simpa using h2)⟩
theorem ARels.append {w : World} {S : Nat → Prop} {C : Conc} {nv : Nat} {xs ys : List AV} {us vs : List Value} (h : ARels w S C nv xs us) (g : ARels w S C nv ys vs) : ARels w S C nv (xs ++ ys) (us ++ vs) := by
  refine ⟨by simp [h.1, g.1], fun j x u h1 h2 => ?_⟩
  by_cases hj : j < xs.length
  · rw [List.getElem?_append_left hj] at h1
    rw [List.getElem?_append_left (by rw [← h.1]; exact hj)] at h2
    exact h.2 j x u h1 h2
  · rw [List.getElem?_append_right (by omega)] at h1
    rw [List.getElem?_append_right (by rw [← h.1]; omega), ← h.1] at h2
    exact g.2 _ x u h1 h2
theorem ARels.get {w : World} {S : Nat → Prop} {C : Conc} {nv : Nat} {xs : List AV} {us : List Value} (h : ARels w S C nv xs us) {j : Nat} {x : AV} (hx : xs[j]? = some x) : ∃ u, us[j]? = some u ∧ ARel w S C nv x u := by
  have hj : j < us.length := by rw [← h.1]; exact (List.getElem?_eq_some_iff.1 hx).1
  exact ⟨us[j], List.getElem?_eq_getElem hj, h.2 j x _ hx (List.getElem?_eq_getElem hj)⟩
theorem ARels.take {w : World} {S : Nat → Prop} {C : Conc} {nv : Nat} {xs : List AV} {us : List Value} (h : ARels w S C nv xs us) (n : Nat) : ARels w S C nv (xs.take n) (us.take n) := by
  refine ⟨by simp [h.1], fun j x u h1 h2 => ?_⟩
  rw [List.getElem?_take] at h1 h2
  split at h1
  · rename_i hj; simp only [hj, if_true] at h2; exact h.2 j x u h1 h2
  · simp at h1
theorem ARels.drop {w : World} {S : Nat → Prop} {C : Conc} {nv : Nat} {xs : List AV} {us : List Value} (h : ARels w S C nv xs us) (n : Nat) : ARels w S C nv (xs.drop n) (us.drop n) := by
  refine ⟨by simp [h.1], fun j x u h1 h2 => ?_⟩
  rw [List.getElem?_drop] at h1 h2
  exact h.2 _ x u h1 h2

theorem ARel.inv_iv {w : World} {S : Nat → Prop} {C : Conc} {nv : Nat} {x : IV} {u : Value} (h : ARel w S C nv (.iv x) u) : IRel w S x u := by cases h; assumption
theorem ARel.inv_agg {w : World} {S : Nat → Prop} {C : Conc} {nv : Nat} {cs : List AV} {u : Value} (h : ARel w S C nv (.agg cs) u) : ∃ us, u = .agg us.toArray ∧ ARels w S C nv cs us := by
  cases h with
  | agg cs us hl hr => exact ⟨us, rfl, hl, hr⟩
theorem ARel.inv_tup {w : World} {S : Nat → Prop} {C : Conc} {nv : Nat} {cs : List AV} {u : Value} (h : ARel w S C nv (.tup cs) u) : ∃ us, u = .tuple us.toArray ∧ ARels w S C nv cs us := by
  cases h with
  | tup cs us hl hr => exact ⟨us, rfl, hl, hr⟩
theorem ARel.inv_fn {w : World} {S : Nat → Prop} {C : Conc} {nv : Nat} {f : Nat} {cs : List AV} {u : Value} (h : ARel w S C nv (.fn f cs) u) : ∃ us, u = .func (.func f) #[] us.toArray ∧ ARels w S C nv cs us := by
  cases h with
  | fn f cs us hl hr => exact ⟨us, rfl, hl, hr⟩
theorem IRel.inv_int {w : World} {S : Nat → Prop} {k : IntKind} {n : Int} {u : Value} (h : IRel w S (.int k n) u) : u = .int k n := by cases h; rfl
theorem IRel.inv_bool {w : World} {S : Nat → Prop} {b : Bool} {u : Value} (h : IRel w S (.bool b) u) : u = .bool b := by cases h; rfl
theorem IRel.inv_str {w : World} {S : Nat → Prop} {b : ByteArray} {u : Value} (h : IRel w S (.str b) u) : u = .string b := by cases h; rfl
theorem ARel.inv_osl {w : World} {S : Nat → Prop} {C : Conc} {nv k ver : Nat} {u : Value} (h : ARel w S C nv (.osl k ver) u) : ver < nv ∧ u.oneCell' = true ∧ ∃ co, C k = some co ∧ ∀ v sz, co = .live ver v sz → u = v := by
  cases h with
  | osl k ver u co hv hc h1 h => exact ⟨hv, h1, co, hc, h⟩
theorem ARel.inv_osub {w : World} {S : Nat → Prop} {C : Conc} {nv k ver off len : Nat} {u : Value} (h : ARel w S C nv (.osub k ver off len) u) : ver < nv ∧ u.oneCell' = true ∧ ∃ co, C k = some co ∧ ∀ v sz, co = .live ver v sz → ∃ a c, u = .slice a len c ∧ len ≤ c ∧ (len = 0 ∨ ∃ g n cap, v = .slice (some ⟨g, 0, none⟩) n cap ∧ a = some ⟨g, off * sz, none⟩) := by
  cases h with
  | osub k ver off len u co hv hc h1 h => exact ⟨hv, h1, co, hc, h⟩
theorem ARel.inv_ptr {w : World} {S : Nat → Prop} {C : Conc} {nv k ver i j : Nat} {u : Value} (h : ARel w S C nv (.ptr k ver i j) u) : ver < nv ∧ (∃ a : Addr, u = .pointer (some a)) ∧ ∃ co, C k = some co ∧ ∀ v sz, co = .live ver v sz → ∃ g, blkOf v = some g ∧ u = .pointer (some ⟨g, i * sz + j, none⟩) := by
  cases h with
  | ptr k ver i j u co hv hc h1 h => exact ⟨hv, h1, co, hc, h⟩
theorem ARel.inv_iptr {w : World} {S : Nat → Prop} {C : Conc} {nv : Nat} {cs : List IV} {u : Value} (h : ARel w S C nv (.iptr cs) u) : ∃ (b off : Nat) (g : Nat → Value), u = .pointer (some ⟨b, off, none⟩) ∧ ∀ (j : Nat) (x : IV), cs[j]? = some x → ¬ S b ∧ w.cell? ⟨b, off + j, none⟩ = some (g j) ∧ IRel w S x (g j) := by
  cases h with
  | iptr cs b off g hs => exact ⟨b, off, g, rfl, hs⟩

/-! ### objects -/
def tyOf (e : Nat) : Nat := e % 4294967296
/-- A row out of a string bears the run-time's mark behind its last cell: its type's number tells it. -/
def frOf (e n : Nat) : Nat × Nat := if e < 4294967296 then (0, 0) else (n, n + 1)
def Held (w : World) (e sz : Nat) (v : Value) (n : Nat) (xs : List Value) : Prop :=
  xs.length = n * sz ∧ ((v = .slice none 0 0 ∧ n = 0) ∨ ∃ g cap cur, v = .slice (some ⟨g, 0, none⟩) n cap ∧ 0 ≤ g ∧ w.heap[g]? = some (.cells cur (tyOf e) (frOf e cur.size)) ∧ n ≤ cap ∧ cap ≤ maxLen ∧ cur.size = cap * sz ∧ cur.toList.take (n * sz) = xs)
theorem held_iff {w : World} {e sz n : Nat} {v : Value} {xs : List Value} (he : e < 4294967296) : w.ownsRow 0 e sz v n xs ↔ Held w e sz v n xs := by
  unfold Held World.ownsRow tyOf frOf
  rw [Nat.mod_eq_of_lt he]
  simp only [he, if_true]
theorem Held.cells {w : World} {e sz n : Nat} {v : Value} {xs : List Value} (h : Held w e sz v n xs) {g : Nat} (hg : v.ownBlock = some g) (j : Nat) (u : Value) (hu : xs[j]? = some u) : w.cell? ⟨g, j, none⟩ = some u := by
  rcases h.2 with ⟨rfl, _⟩ | ⟨g', cap, cur, rfl, _, h1, _, _, _, h2⟩
  · simp [Value.ownBlock] at hg
  · simp only [Value.ownBlock, Option.some.injEq] at hg
    subst hg
    rw [← h2, List.getElem?_take] at hu
    split at hu
    · simp [World.cell?, h1]
      simpa using hu
    · simp at hu
def RowRel (w : World) (S : Nat → Prop) (sz : Nat) (es : List (List IV)) (us : List Value) : Prop :=
  (∀ (i : Nat) (e : List IV), es[i]? = some e → e.length = sz) ∧ ∀ (i : Nat) (e : List IV) (j : Nat) (x : IV) (u : Value), es[i]? = some e → e[j]? = some x → us[i * sz + j]? = some u → IRel w S x u
def ObjOk (w : World) (S : Nat → Prop) (C : Conc) (nv k : Nat) : Obj → Prop
  | .box e ver cells => ver < nv ∧ ∃ g us, C k = some (.live ver (.pointer (some ⟨g, 0, none⟩)) 0) ∧ w.heap[g]? = some (.cells us.toArray e (0, 0)) ∧ ARels w S C nv cells us
  | .row e sz ver es => ver < nv ∧ 0 < sz ∧ ∃ v us, C k = some (.live ver v sz) ∧ Held w e sz v es.length us ∧ RowRel w S sz es us
  | .gone => True
structure ORel (X : Nat → Prop) (w : World) (C : Conc) (nv : Nat) (L : List Obj) (K : Nat → Prop) : Prop where
  ok : ∀ k o, K k → L[k]? = some o → ObjOk w (Shut X C) C nv k o
  dist : ∀ k k' b, OwnsB C k b → OwnsB C k' b → k = k'
  lt : ∀ b, LiveB C b → b < w.heap.size

/-- A step: what may be turned is 'mod'; from L.length on there may be new ones. -/
structure Delta (X : Nat → Prop) (w : World) (C : Conc) (nv : Nat) (mod : List Nat) (lo hi : Nat) (w' : World) (C' : Conc) (nv' : Nat) : Prop where
  os : w'.os = w.os
  tape : w'.tape = w.tape
  output : w'.output = w.output
  size : w.heap.size ≤ w'.heap.size
  blk : ∀ b, b < w.heap.size → (∀ k ∈ mod, ¬ OwnsB C k b) → w'.heap[b]? = w.heap[b]?
  same : ∀ k, (k ∉ mod ∨ hi ≤ k) → ¬ (lo ≤ k ∧ k < hi) → C' k = C k
  turned : ∀ k co, k ∈ mod → C k = some co → ∃ co', C' k = some co' ∧ Later nv co co'
  fresh : ∀ k, lo ≤ k → k < hi → (C k = none ∨ C k = some .dead) → ∃ co', C' k = some co' ∧ ∀ ver v sz, co' = .live ver v sz → nv ≤ ver
  liveB : ∀ b, LiveB C' b → LiveB C b ∨ w.heap.size ≤ b
  dist : (∀ k k' b, OwnsB C k b → OwnsB C k' b → k = k') → (∀ b, LiveB C b → b < w.heap.size) → ∀ k k' b, OwnsB C' k b → OwnsB C' k' b → k = k'
  lt : (∀ b, LiveB C b → b < w.heap.size) → ∀ b, LiveB C' b → b < w'.heap.size
  nv : nv ≤ nv'

/-- Between lo and hi no object stands yet. -/
def Free (C : Conc) (lo hi : Nat) : Prop := ∀ k, lo ≤ k → k < hi → C k = none ∨ C k = some .dead

theorem cell_lt {w : World} {b o : Nat} {u : Value} (h : w.cell? ⟨b, o, none⟩ = some u) : b < w.heap.size := by
  simp only [World.cell?] at h
  cases hb : w.heap[b]? with
  | none => rw [hb] at h; simp at h
  | some x => exact (Array.getElem?_eq_some_iff.1 hb).1

theorem Delta.ext {X : Nat → Prop} {w w' : World} {C C' : Conc} {nv nv' lo hi : Nat} {mod : List Nat} (D : Delta X w C nv mod lo hi w' C' nv') (hf : Free C lo hi) : Ext w (Shut X C) C nv w' (Shut X C') C' nv' where
  lasts := ⟨fun b o u hs hc => by
    have hlt := cell_lt hc
    have hb : w'.heap[b]? = w.heap[b]? := D.blk b hlt (fun k _ ho => hs (.inr ⟨k, ho⟩))
    refine ⟨fun hs' => ?_, by rw [World.cell?_of_block (w := w) (w' := w') (a := ⟨b, o, none⟩) hb]; exact hc⟩
    rcases hs' with hx | hl
    · exact hs (.inl hx)
    · rcases D.liveB b hl with h | h
      · exact hs (.inr h)
      · omega⟩
  keep := fun k co hc => by
    by_cases hm : k ∈ mod
    · exact D.turned k co hm hc
    · by_cases hn : lo ≤ k ∧ k < hi
      · obtain ⟨co', h1, h2⟩ := D.fresh k hn.1 hn.2 (hf k hn.1 hn.2)
        exact ⟨co', h1, .inr h2⟩
      · exact ⟨co, by rw [D.same k (.inl hm) hn]; exact hc, .inl rfl⟩
  nv := D.nv

theorem ObjOk.mono_row {w w' : World} {S S' : Nat → Prop} {sz : Nat} {es : List (List IV)} {us : List Value} (H : Lasts w S w' S') (h : RowRel w S sz es us) : RowRel w' S' sz es us :=
  ⟨h.1, fun i e j x u h1 h2 h3 => (h.2 i e j x u h1 h2 h3).lasts H⟩

theorem ownsRow_block {w w' : World} {e sz n : Nat} {v : Value} {xs : List Value} (h : Held w e sz v n xs) (hb : ∀ b, v.ownBlock = some b → w'.heap[b]? = w.heap[b]?) : Held w' e sz v n xs := by
  refine ⟨h.1, ?_⟩
  rcases h.2 with hn | ⟨g, cap, cur, rfl, h1, h2, h3⟩
  · exact .inl hn
  · exact .inr ⟨g, cap, cur, rfl, h1, by rw [hb g (by simp [Value.ownBlock])]; exact h2, h3⟩

/-- An object that is not among those that may be turned is as it was. -/
theorem Delta.obj {X : Nat → Prop} {w w' : World} {C C' : Conc} {nv nv' lo hi : Nat} {mod : List Nat} (D : Delta X w C nv mod lo hi w' C' nv') (hf : Free C lo hi)
    (hd : ∀ k k' b, OwnsB C k b → OwnsB C k' b → k = k') (hlt : ∀ b, LiveB C b → b < w.heap.size)
    {k : Nat} {o : Obj} (hk : k ∉ mod) (h : ObjOk w (Shut X C) C nv k o) : ObjOk w' (Shut X C') C' nv' k o := by
  have E := D.ext hf
  cases o with
  | gone => trivial
  | box e ver cells =>
    obtain ⟨hv, g, us, hc, hg, hr⟩ := h
    have hn : ¬ (lo ≤ k ∧ k < hi) := fun hn => by rcases hf k hn.1 hn.2 with h | h <;> rw [h] at hc <;> simp at hc
    have ho : OwnsB C k g := ⟨_, _, _, hc, rfl⟩
    refine ⟨Nat.lt_of_lt_of_le hv D.nv, g, us, by rw [D.same k (.inl hk) hn]; exact hc, ?_, hr.ext E⟩
    rw [D.blk g (hlt g ⟨k, ho⟩) (fun k' hk' ho' => hk (hd k k' g ho ho' ▸ hk'))]
    exact hg
  | row e sz ver es =>
    obtain ⟨hv, hz, v, us, hc, hg, hr⟩ := h
    have hn : ¬ (lo ≤ k ∧ k < hi) := fun hn => by rcases hf k hn.1 hn.2 with h | h <;> rw [h] at hc <;> simp at hc
    refine ⟨Nat.lt_of_lt_of_le hv D.nv, hz, v, us, by rw [D.same k (.inl hk) hn]; exact hc, ?_, ObjOk.mono_row E.lasts hr⟩
    refine ownsRow_block hg fun b hb => ?_
    have ho : OwnsB C k b := ⟨_, _, _, hc, by cases v <;> simp_all [Value.ownBlock, blkOf] <;> (rename_i a _ _; cases a <;> simp_all)⟩
    exact D.blk b (hlt b ⟨k, ho⟩) (fun k' hk' ho' => hk (hd k k' b ho ho' ▸ hk'))

theorem Delta.refl (X : Nat → Prop) (w : World) (C : Conc) (nv lo : Nat) : Delta X w C nv [] lo lo w C nv where
  os := rfl
  tape := rfl
  output := rfl
  size := Nat.le_refl _
  blk := fun _ _ _ => rfl
  same := fun _ _ _ => rfl
  turned := fun _ _ h => by simp at h
  fresh := fun k h1 h2 => by omega
  liveB := fun _ h => .inl h
  dist := fun h _ => h
  lt := fun h => h
  nv := Nat.le_refl _
/-- Only what was drawn has moved. -/
theorem Delta.quiet (X : Nat → Prop) {w w' : World} (C : Conc) (nv lo : Nat) (h1 : w'.heap = w.heap) (h2 : w'.os = w.os) (h3 : w'.tape = w.tape) (h4 : w'.output = w.output) : Delta X w C nv [] lo lo w' C nv where
  os := h2
  tape := h3
  output := h4
  size := by rw [h1]; exact Nat.le_refl _
  blk := fun _ _ _ => by rw [h1]
  same := fun _ _ _ => rfl
  turned := fun _ _ h => by simp at h
  fresh := fun k h1 h2 => by omega
  liveB := fun _ h => .inl h
  dist := fun h _ => h
  lt := fun h => by rw [h1]; exact h
  nv := Nat.le_refl _
end Go.Om
