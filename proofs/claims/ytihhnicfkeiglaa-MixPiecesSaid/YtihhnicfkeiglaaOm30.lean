/-
  Om: from a law's data to abstract values, and from the abstract run's answer to the row.
-/
import Derived.Test.YtihhnicfkeiglaaOm29
import Derived.ProofKit
import Derived.ReadAgain
import Derived.OpenShut
set_option linter.all false
namespace Go.Om
open Go Go.RowKit Go.ChangeShapes Go.WideShapes

/-- The shape of a cell. -/
inductive Sh where
  | i (k : IntKind)
  | b
  | s
  | sl (es : List Sh)

def shParts (sh : TypeId → Option (List Sh)) (P : Program) : Nat → List (Nat × TypeId) → Option (List Sh)
  | _, [] => some []
  | off, p :: r => if p.1 = off then (sh p.2).bind fun L => if P.cellsOf p.2 = L.length then (shParts sh P (off + L.length) r).map (L ++ ·) else none else none
def shOf (P : Program) : Nat → TypeId → Option (List Sh)
  | 0, _ => none
  | n + 1, t => match P.underlying t with
    | some .bool => some [.b]
    | some (.int k) => some [.i k]
    | some .string => some [.s]
    | some (.slice e) => (shOf P n e).bind fun L => if P.cellsOf e = L.length ∧ 0 < L.length then some [.sl L] else none
    | some (.struct fs) => (shParts (shOf P n) P 0 (fs.toList.map fun f => (f.offset, f.type))).bind fun L => if P.cellsOf t = L.length then some L else none
    | some (.array m e) => (shParts (shOf P n) P 0 ((List.range m).map fun i => (i * P.cellsOf e, e))).bind fun L => if P.cellsOf t = L.length then some L else none
    | _ => none

inductive Has : Sh → IV → Prop
  | i {k : IntKind} {n : Int} (h : (Lit.int k n).wf = true) : Has (.i k) (.int k n)
  | b {x : Bool} : Has .b (.bool x)
  | s {x : ByteArray} (h : x.size ≤ maxLen) : Has .s (.str x)
  | sl {L : List Sh} {es : List (List IV)} (hn : es.length ≤ maxLen) (hl : ∀ e, e ∈ es → e.length = L.length)
      (h : ∀ e, e ∈ es → ∀ (j : Nat) (s : Sh) (x : IV), L[j]? = some s → e[j]? = some x → Has s x) : Has (.sl L) (.sl es)
def HasAll (L : List Sh) (xs : List IV) : Prop := xs.length = L.length ∧ ∀ (j : Nat) (s : Sh) (x : IV), L[j]? = some s → xs[j]? = some x → Has s x

theorem HasAll.nil_inv {xs : List IV} (h : HasAll [] xs) : xs = [] := List.eq_nil_of_length_eq_zero h.1
theorem HasAll.cons_inv {s : Sh} {L : List Sh} {xs : List IV} (h : HasAll (s :: L) xs) : ∃ x r, xs = x :: r ∧ Has s x ∧ HasAll L r := by
  obtain ⟨hl, hr⟩ := h
  cases xs with
  | nil => simp at hl
  | cons x r => exact ⟨x, r, rfl, hr 0 s x rfl rfl, by simpa using hl, fun j s' y h1 h2 => hr (j + 1) s' y (by simpa using h1) (by simpa using h2)⟩
theorem Has.i_inv {k : IntKind} {x : IV} (h : Has (.i k) x) : ∃ n, x = .int k n ∧ (Lit.int k n).wf = true := by
  cases h with
  | i h => exact ⟨_, rfl, h⟩
theorem Has.b_inv {x : IV} (h : Has .b x) : ∃ n, x = .bool n := by
  cases h with
  | b => exact ⟨_, rfl⟩
theorem Has.s_inv {x : IV} (h : Has .s x) : ∃ n, x = .str n ∧ n.size ≤ maxLen := by
  cases h with
  | s h => exact ⟨_, rfl, h⟩
theorem Has.sl_inv {L : List Sh} {x : IV} (h : Has (.sl L) x) : ∃ es, x = .sl es ∧ es.length ≤ maxLen ∧ ∀ e, e ∈ es → HasAll L e := by
  cases h with
  | sl hn hl h => exact ⟨_, rfl, hn, fun e he => ⟨hl e he, h e he⟩⟩

section
variable {H : Type} {enc : TypeId × Value → H} {P : Program} {w : World} {sp : Nat → Bool} {held : Bool} {S : Nat → Prop}

theorem pick_list {α : Type} {Q : Nat → α → Prop} {n : Nat} (h : ∀ i, i < n → ∃ x, Q i x) : ∃ l : List α, l.length = n ∧ ∀ i x, l[i]? = some x → i < n ∧ Q i x := by
  induction n with
  | zero => exact ⟨[], rfl, fun i x h => by simp at h⟩
  | succ n ih =>
    obtain ⟨l, h1, h2⟩ := ih fun i hi => h i (by omega)
    obtain ⟨x, hx⟩ := h n (by omega)
    refine ⟨l ++ [x], by simp [h1], fun i y hy => ?_⟩
    by_cases hi : i < l.length
    · rw [List.getElem?_append_left hi] at hy
      exact ⟨by omega, (h2 i y hy).2⟩
    · rw [List.getElem?_append_right (by omega)] at hy
      have hin : i - l.length = 0 := by
        cases hk : i - l.length with
        | zero => rfl
        | succ k => rw [hk] at hy; simp at hy
      rw [hin] at hy
      simp at hy
      subst hy
      have : i = n := by omega
      subst this
      exact ⟨by omega, hx⟩

theorem cells?_get {base n : Nat} {a : Addr} {cs : List Value} (h : w.cells? base a n = some cs) : cs.length = n ∧ ∀ j, j < n → w.cell? (a.add j) = cs[j]? := by
  unfold World.cells? at h
  split at h
  · have hg : ∀ (q : List Nat) (l : List Value), q.mapM (fun i => w.cell? (a.add i)) = some l → l.length = q.length ∧ ∀ (j i : Nat), q[j]? = some i → w.cell? (a.add i) = l[j]? := by
      intro q
      induction q with
      | nil => intro l h; simp at h; subst h; simp
      | cons x r ih =>
        intro l h
        rw [List.mapM_cons] at h
        cases ha : w.cell? (a.add x) with
        | none => simp [ha] at h
        | some y =>
          cases hr : r.mapM (fun i => w.cell? (a.add i)) with
          | none => simp [ha, hr] at h
          | some ys =>
            simp [ha, hr] at h
            subst h
            obtain ⟨h1, h2⟩ := ih ys hr
            refine ⟨by simp [h1], fun j i hj => ?_⟩
            cases j with
            | zero => simp at hj; subst hj; simpa using ha
            | succ j => simpa using h2 j i (by simpa using hj)
    obtain ⟨h1, h2⟩ := hg _ _ h
    exact ⟨by simpa using h1, fun j hj => h2 j j (by simp [hj])⟩
  · cases h

theorem cell_spot {a : Addr} {v : Value} (h : w.cell? a = some v) : a.spot = none := by
  cases hsp : a.spot with
  | none => rfl
  | some s =>
    simp only [World.cell?] at h
    split at h
    · simp [hsp] at h
    · cases h
theorem add_spot {a : Addr} (h : a.spot = none) (n : Nat) : a.add n = ⟨a.block, a.off + n, none⟩ := by
  unfold Addr.add
  split
  · rename_i h0; subst h0; cases a; simp_all
  · rfl

/-- What is claimed of a reading. -/
def OpenOk (enc : TypeId × Value → H) (P : Program) (w : World) (sp : Nat → Bool) (held : Bool) (S : Nat → Prop) (n : Nat) : Prop :=
  ∀ (m : Nat) (t : TypeId) (cs : List Value) (x : DataW H × List MemPlace) (L : List Sh), shOf P m t = some L → DataW.trod enc P w 0 sp held n t cs = some x →
    cs.length = L.length ∧ ∃ xs : List IV, HasAll L xs ∧ ∀ (j : Nat) (y : IV) (u : Value), xs[j]? = some y → cs[j]? = some u → IRel w S y u

theorem parts_open {n m : Nat} (ih : OpenOk enc P w sp held S n) {cs : List Value} : ∀ (parts : List (Nat × TypeId)) (off : Nat) (L : List Sh), shParts (shOf P m) P off parts = some L →
    (∀ p, p ∈ parts → ∃ y, DataW.trod enc P w 0 sp held n p.2 ((cs.drop p.1).take (P.cellsOf p.2)) = some y) →
    ∃ xs : List IV, HasAll L xs ∧ ∀ (j : Nat) (y : IV) (u : Value), xs[j]? = some y → cs[off + j]? = some u → IRel w S y u := by
  intro parts
  induction parts with
  | nil =>
    intro off L h _
    simp [shParts] at h
    subst h
    exact ⟨[], ⟨rfl, fun j s x h => by simp at h⟩, fun j y u h => by simp at h⟩
  | cons p r ihp =>
    intro off L h hy
    simp only [shParts] at h
    split at h
    · rename_i hoff
      obtain ⟨L1, h1, h2⟩ := Option.bind_eq_some_iff.1 h
      split at h2
      · rename_i hsz
        obtain ⟨L2, h3, h4⟩ := Option.map_eq_some_iff.1 h2
        subst h4
        obtain ⟨y1, ha⟩ := hy p List.mem_cons_self
        obtain ⟨hlen, xs1, a1, a2⟩ := ih m p.2 _ _ _ h1 ha
        obtain ⟨xs2, b1, b2⟩ := ihp _ _ h3 (fun q hq => hy q (List.mem_cons_of_mem _ hq))
        refine ⟨xs1 ++ xs2, ⟨by simp [a1.1, b1.1], fun j s x hs hx => ?_⟩, fun j y u hy hu => ?_⟩
        · by_cases hj : j < L1.length
          · rw [List.getElem?_append_left hj] at hs
            rw [List.getElem?_append_left (by rw [a1.1]; exact hj)] at hx
            exact a1.2 j s x hs hx
          · rw [List.getElem?_append_right (by omega)] at hs
            rw [List.getElem?_append_right (by rw [a1.1]; omega), a1.1] at hx
            exact b1.2 _ s x hs hx
        · by_cases hj : j < L1.length
          · rw [List.getElem?_append_left (by rw [a1.1]; exact hj)] at hy
            refine a2 j y u hy ?_
            rw [List.getElem?_take, if_pos (by omega), List.getElem?_drop, hoff]
            exact hu
          · rw [List.getElem?_append_right (by rw [a1.1]; omega), a1.1] at hy
            refine b2 _ y u hy ?_
            rw [show off + L1.length + (j - L1.length) = off + j by omega]
            exact hu
      · cases h2
    · cases h

theorem one_has {s : Sh} {x : IV} (h : Has s x) : HasAll [s] [x] := ⟨rfl, fun j s' y h1 h2 => by
  cases j with
  | zero => simp at h1 h2; subst h1; subst h2; exact h
  | succ j => simp at h1⟩
theorem one_rel {x : IV} {u : Value} (h : IRel w S x u) : ∀ (j : Nat) (y : IV) (u' : Value), [x][j]? = some y → [u][j]? = some u' → IRel w S y u' := fun j y u' h1 h2 => by
  cases j with
  | zero => simp at h1 h2; subst h1; subst h2; exact h
  | succ j => simp at h1

theorem trod_open (hS : ∀ b, ¬ S b) : ∀ n, OpenOk enc P w sp held S n := by
  intro n
  induction n with
  | zero => intro m t cs x L _ h; simp [DataW.trod] at h
  | succ n ih =>
    intro m t cs x L hL h
    cases m with
    | zero => simp [shOf] at hL
    | succ m =>
      simp only [shOf] at hL
      split at hL
      · rename_i hu
        cases hL
        obtain ⟨b, rfl, _⟩ := DataW.trod_bool hu h
        exact ⟨rfl, [.bool b], one_has .b, one_rel (.bool b)⟩
      · rename_i k hu
        cases hL
        obtain ⟨z, rfl, _, hw⟩ := DataW.trod_int hu h
        exact ⟨rfl, [.int k z], one_has (.i hw), one_rel (.int k z)⟩
      · rename_i hu
        cases hL
        obtain ⟨s, rfl, _, hw⟩ := DataW.trod_string hu h
        exact ⟨rfl, [.str s], one_has (.s hw), one_rel (.str s)⟩
      · rename_i e hu
        obtain ⟨L1, h1, h2⟩ := Option.bind_eq_some_iff.1 hL
        split at h2
        · rename_i hsz
          cases h2
          rcases DataW.trod_slice hu h with ⟨rfl, _⟩ | ⟨a, len, cap, elems, rest, n', hn', rfl, _, _, hlc, hcm, hel, hget, _⟩
          · exact ⟨rfl, [.sl []], one_has (.sl (by simp) (fun e he => by simp at he) (fun e he => by simp at he)), one_rel (.nil none 0)⟩
          · have hnn : n = n' := by omega
            subst hnn
            have hex : ∀ i, i < len → ∃ xs : List IV, HasAll L1 xs ∧ ∀ j, j < L1.length → (∃ u, w.cell? ((a.add (i * P.cellsOf e)).add j) = some u) ∧ ∀ (y : IV) (u : Value), xs[j]? = some y → w.cell? ((a.add (i * P.cellsOf e)).add j) = some u → IRel w S y u := by
              intro i hi
              have h3 := hget i hi
              rw [List.getElem?_eq_getElem (by omega)] at h3
              obtain ⟨cs', h4, h5⟩ := Option.bind_eq_some_iff.1 h3
              obtain ⟨h6, h7⟩ := cells?_get h4
              obtain ⟨h8, xs, h9, h10⟩ := ih m e cs' _ L1 h1 h5
              refine ⟨xs, h9, fun j hj => ⟨?_, fun y u hy hu => ?_⟩⟩
              · rw [h7 j (by omega), List.getElem?_eq_getElem (by omega)]
                exact ⟨_, rfl⟩
              · refine h10 j y u hy ?_
                rw [← h7 j (by omega)]
                exact hu
            obtain ⟨es, he1, he2⟩ := pick_list hex
            refine ⟨rfl, [.sl es], one_has (.sl (by omega) (fun d hd => ?_) (fun d hd => ?_)), one_rel ?_⟩
            · obtain ⟨i, hi⟩ := List.getElem?_of_mem hd
              exact (he2 i d hi).2.1.1
            · obtain ⟨i, hi⟩ := List.getElem?_of_mem hd
              exact (he2 i d hi).2.1.2
            · by_cases h0 : len = 0
              · subst h0
                have : es = [] := List.eq_nil_of_length_eq_zero he1
                subst this
                exact .nil (some a) cap
              · obtain ⟨xs0, _, hx0⟩ := hex 0 (by omega)
                obtain ⟨⟨u0, hu0⟩, _⟩ := hx0 0 hsz.2
                have hsp : a.spot = none := by
                  have := cell_spot hu0
                  simpa [Addr.add] using this
                have hadd : ∀ i j, (a.add (i * P.cellsOf e)).add j = ⟨a.block, a.off + (i * L1.length + j), none⟩ := by
                  intro i j
                  rw [add_spot hsp, add_spot rfl, hsz.1, Nat.add_assoc]
                have ha : a = ⟨a.block, a.off, none⟩ := by cases a; simp_all
                rw [ha, ← he1]
                refine .sl es a.block a.off cap L1.length (fun i j => (w.cell? ⟨a.block, a.off + (i * L1.length + j), none⟩).getD (.bool false)) (by omega) (fun i d hd => (he2 i d hd).2.1.1) (fun i d j y hd hy => ⟨hS _, ?_⟩) (fun i d j y hd hy => ?_)
                · obtain ⟨_, hh, hc⟩ := he2 i d hd
                  have hj : j < L1.length := by rw [← hh.1]; exact (List.getElem?_eq_some_iff.1 hy).1
                  obtain ⟨⟨u, hu'⟩, _⟩ := hc j hj
                  rw [hadd] at hu'
                  rw [hu']
                  rfl
                · obtain ⟨_, hh, hc⟩ := he2 i d hd
                  have hj : j < L1.length := by rw [← hh.1]; exact (List.getElem?_eq_some_iff.1 hy).1
                  obtain ⟨⟨u, hu'⟩, hr⟩ := hc j hj
                  have := hr y u hy hu'
                  rw [hadd] at hu'
                  rw [hu']
                  exact this
        · cases h2
      · rename_i fs hu
        obtain ⟨L1, h1, h2⟩ := Option.bind_eq_some_iff.1 hL
        split at h2
        · rename_i hsz
          cases h2
          obtain ⟨xs, n', hn', _, hlen, hx, hg⟩ := DataW.trod_struct hu h
          have hnn : n = n' := by omega
          subst hnn
          obtain ⟨ys, g1, g2⟩ := parts_open ih (cs := cs) _ 0 L h1 (fun p hp => by
            obtain ⟨f, hf, rfl⟩ := List.mem_map.1 hp
            obtain ⟨i, hi⟩ := List.getElem?_of_mem hf
            have hi' : fs[i]? = some f := by simpa using hi
            have := hg i f hi'
            have hlt : i < fs.size := (Array.getElem?_eq_some_iff.1 hi').1
            rw [List.getElem?_eq_getElem (by omega)] at this
            exact ⟨_, this⟩)
          exact ⟨by omega, ys, g1, fun j y u hy hcu => g2 j y u hy (by simpa using hcu)⟩
        · cases h2
      · rename_i q e hu
        obtain ⟨L1, h1, h2⟩ := Option.bind_eq_some_iff.1 hL
        split at h2
        · rename_i hsz
          cases h2
          obtain ⟨xs, n', hn', _, hlen, hx, hg⟩ := DataW.trod_array hu h
          have hnn : n = n' := by omega
          subst hnn
          obtain ⟨ys, g1, g2⟩ := parts_open ih (cs := cs) _ 0 L h1 (fun p hp => by
            obtain ⟨i, hi, rfl⟩ := List.mem_map.1 hp
            have hi' : i < q := List.mem_range.1 hi
            have := hg i hi'
            rw [List.getElem?_eq_getElem (by omega)] at this
            exact ⟨_, this⟩)
          exact ⟨by omega, ys, g1, fun j y u hy hcu => g2 j y u hy (by simpa using hcu)⟩
        · cases h2
      · cases hL
end
end Go.Om
