/-
  Om: append.
-/
import Derived.Test.YtihhnicfkeiglaaOm8
import Derived.Deep.AppendSrc
set_option linter.all false
namespace Go.Om
open Go Go.RowKit

section
variable {hh : Nat} {P : Program} {X : Nat → Prop} {w w' : World} {C C' : Conc} {h h' : Hp} {v : AV} {u : Value} {K mod : List Nat} {ρ : Operand → Value} {e : AEnv} {o : Oper} {S : Nat → Prop} {nv : Nat}

theorem setRow_block (w : World) (g : Nat) (cs : Array Value) (cur : Array Value) (t : Nat) {fr : Nat × Nat} (hg : w.heap[g]? = some (.cells cur t fr)) : (w.setRow g cs).heap[g]? = some (.cells cs t fr) := setRow_heap w g cur cs t _ hg
theorem setRow_other (w : World) (g : Nat) (cs : Array Value) {b : Nat} (hb : b ≠ g) : (w.setRow g cs).heap[b]? = w.heap[b]? := by
  simp only [World.setRow, Array.getElem?_modify]
  rw [if_neg (by omega)]
theorem setRow_size (w : World) (g : Nat) (cs : Array Value) : (w.setRow g cs).heap.size = w.heap.size := by simp [World.setRow]

theorem growBy_le (k : Nat) : ∀ (r c : Nat), Builtin.growBy k r c ≤ max c (4 * k + 4096) := by
  intro r
  induction r with
  | zero => intro c; simp only [Builtin.growBy]; omega
  | succ r ih =>
    intro c
    simp only [Builtin.growBy]
    split
    · omega
    · rename_i h3
      have := ih (c + (c + 768) / 4)
      omega
theorem nextslice_le (k cap : Nat) : Builtin.nextslicecap k cap ≤ 4 * k + 4096 ∨ k ≤ cap := by
  unfold Builtin.nextslicecap
  split
  · left; omega
  · split
    · by_cases hk : k ≤ cap
      · exact .inr hk
      · left; omega
    · by_cases hk : k ≤ cap
      · exact .inr hk
      · left
        have := growBy_le k 4 cap
        omega

/-- append onto a row that is owned: in place, or anew. -/
theorem append_core {tx t ty el : Nat} {i : TypeInfo} {z : Value} {m n : Nat} {val x : Value} {xs news : List Value} (hzs : z.cells.size = i.size)
    (hown : w.ownsRow 0 el i.size val n xs) (newsLen : news.length = m * i.size) (one : ∀ u ∈ news, u.oneCell' = true) (hb : i.bytes ≤ 4096) (hnm : n + m ≤ 2147483648)
    (rnil : val = .slice none 0 0 → m = 0 → n = 0 → (Builtin.append_ #[t, tx] ty #[val, x]).run P w = .ok (.slice none 0 0) w)
    (rgrow : ∀ (base : Option Addr) (cap : Nat), val = .slice base n cap → (Builtin.firstCells i.size n val).run P w.drew = .ok xs.toArray w.drew → cap < n + m → Builtin.nextslicecap (n + m) cap * i.bytes ≤ 281474976710656 →
      (Builtin.append_ #[t, tx] ty #[val, x]).run P w = .ok (.slice (some ⟨w.heap.size, 0, none⟩) (n + m) (grownCap w (n + m) cap el)) (w.drew.alloc (.cells ((xs ++ news).toArray ++ Builtin.zeroCells z.cells (grownCap w (n + m) cap el - (n + m))) el)))
    (rroom : ∀ (g cap : Nat) (W : World), val = .slice (some ⟨g, 0, none⟩) n cap → n + m ≤ cap → (storeCells ⟨g, n * i.size, none⟩ news 0).run P w = .ok () W → (Builtin.append_ #[t, tx] ty #[val, x]).run P w = .ok (.slice (some ⟨g, 0, none⟩) (n + m) cap) W) :
    ∃ val' w', (Builtin.append_ #[t, tx] ty #[val, x]).run P w = .ok val' w' ∧ w'.ownsRow 0 el i.size val' (n + m) (xs ++ news) ∧
      w'.os = w.os ∧ w'.tape = w.tape ∧ w'.output = w.output ∧ w.heap.size ≤ w'.heap.size ∧
      (∀ b, b < w.heap.size → val.ownBlock ≠ some b → w'.heap[b]? = w.heap[b]?) ∧ (val'.ownBlock = val.ownBlock ∨ val'.ownBlock = some w.heap.size) ∧ (∀ b, val'.ownBlock = some b → b < w'.heap.size) ∧ blkOf val' = val'.ownBlock := by
  have hlen : (xs ++ news).length = (n + m) * i.size := by rw [List.length_append, hown.1, newsLen, Nat.add_mul]
  have hnb : (n + m) * i.bytes ≤ 70368744177664 := by
    have := Nat.mul_le_mul hnm hb
    omega
  -- a new row
  have grow : ∀ (base : Option Addr) (cap : Nat), val = .slice base n cap → cap < n + m → cap ≤ maxLen →
      (Builtin.firstCells i.size n val).run P w.drew = .ok xs.toArray w.drew →
      ∃ val' w', (Builtin.append_ #[t, tx] ty #[val, x]).run P w = .ok val' w' ∧ w'.ownsRow 0 el i.size val' (n + m) (xs ++ news) ∧
      w'.os = w.os ∧ w'.tape = w.tape ∧ w'.output = w.output ∧ w.heap.size ≤ w'.heap.size ∧
      (∀ b, b < w.heap.size → val.ownBlock ≠ some b → w'.heap[b]? = w.heap[b]?) ∧ (val'.ownBlock = val.ownBlock ∨ val'.ownBlock = some w.heap.size) ∧ (∀ b, val'.ownBlock = some b → b < w'.heap.size) ∧ blkOf val' = val'.ownBlock := by
    intro base cap hval hlt hcm hfirst
    subst hval
    have hnext := nextslice_le (n + m) cap
    have hfit : Builtin.nextslicecap (n + m) cap * i.bytes ≤ 281474976710656 := by
      have hnext := hnext.resolve_right (by omega)
      generalize Builtin.nextslicecap (n + m) cap = q at hnext ⊢
      have h1 : q * i.bytes ≤ 8589938688 * 4096 := Nat.mul_le_mul (by omega) hb
      omega
    have hrun := rgrow base cap rfl hfirst hlt hfit
    have hge := grownCap_ge w (n + m) cap el
    have hmx := grownCap_le_maxLen w (n + m) cap el (by simp only [maxLen]; omega)
    refine ⟨_, _, hrun, ⟨hlen, .inr ⟨w.heap.size, _, _, rfl, Nat.zero_le _, heap_alloc_new w.drew _, hge, hmx, ?_, ?_⟩⟩, rfl, rfl, rfl, by simp, fun b hb _ => Below.heap_alloc w.drew _ b hb, .inr rfl, fun b hb => ?_, rfl⟩
    · have hz2 : (Builtin.zeroCells z.cells (grownCap w (n + m) cap el - (n + m))).size = (grownCap w (n + m) cap el - (n + m)) * i.size := by rw [size_zeroCells, hzs]
      rw [Array.size_append, hz2, List.size_toArray, hlen, ← Nat.add_mul]
      congr 1
      omega
    · rw [Array.toList_append, List.take_append_of_le_length (by simp only [hlen]; exact Nat.le_refl _)]
      rw [← hlen, List.take_length]
    · simp only [Value.ownBlock, Option.some.injEq] at hb
      subst hb
      simp
  rcases hown.2 with ⟨rfl, rfl⟩ | ⟨g, cap, cur, rfl, _, hg, hnc, hcm, hcur, htake⟩
  · by_cases hm : m = 0
    · subst hm
      have hx0 : xs = [] := List.eq_nil_of_length_eq_zero (by rw [hown.1]; simp)
      have hn0 : news = [] := List.eq_nil_of_length_eq_zero (by rw [newsLen]; simp)
      refine ⟨.slice none 0 0, w, rnil rfl rfl rfl, ⟨hlen, .inl ⟨rfl, rfl⟩⟩, rfl, rfl, rfl, Nat.le_refl _, fun _ _ _ => rfl, .inl rfl, fun b hb => by simp [Value.ownBlock] at hb, rfl⟩
    · have hx0 : xs = [] := List.eq_nil_of_length_eq_zero (by rw [hown.1]; simp)
      exact grow none 0 rfl (by omega) (by simp) (by rw [hx0]; simp [Builtin.firstCells])
  · by_cases hroom : n + m ≤ cap
    · have hmul : (n + m) * i.size ≤ cap * i.size := Nat.mul_le_mul_right _ hroom
      rw [Nat.add_mul] at hmul
      have hfit : n * i.size + news.length ≤ cur.size := by rw [newsLen, hcur]; exact hmul
      have hst := run_storeCells_at P g (n * i.size) el news 0 cur w hg (by simpa using hfit) one
      simp only [Nat.add_zero] at hst
      have hrun := rroom g cap _ rfl hroom hst
      refine ⟨_, _, hrun, ⟨hlen, .inr ⟨g, cap, _, rfl, Nat.zero_le _, setRow_block w g _ cur el hg, hroom, hcm, ?_, ?_⟩⟩, rfl, rfl, rfl, by rw [setRow_size]; exact Nat.le_refl _, fun b _ hb => setRow_other w g _ (fun e => hb (by rw [e]; rfl)), .inl rfl, fun b hb => ?_, rfl⟩
      · simp only [List.size_toArray, List.length_append, List.length_take, List.length_drop, Array.length_toList]
        rw [hcur] at hfit ⊢
        omega
      · have hxl : cur.toList.take (n * i.size) = xs := htake
        rw [hxl]
        show List.take ((n + m) * i.size) (xs ++ news ++ _) = _
        rw [List.take_append_of_le_length (by rw [hlen]; exact Nat.le_refl _), ← hlen, List.take_length]
      · simp only [Value.ownBlock, Option.some.injEq] at hb
        subst hb
        rw [setRow_size]
        exact (Array.getElem?_eq_some_iff.1 hg).1
    · refine grow _ cap rfl (by omega) hcm ?_
      have hxl : xs.length = n * i.size := hown.1
      exact run_firstCells_some w.drew i.size n ⟨g, 0, none⟩ n cap xs hxl (by simpa using hown.cells (g := g) rfl)

theorem append_own {t tx ty el : Nat} {i : TypeInfo} {z : Value} {m n : Nat} {val x : Value} {xs news : List Value} (ht : P.underlying t = some (.slice el)) (hi : P.info? el = some i) (hz : i.zero = some z) (hzs : z.cells.size = i.size)
    (hown : w.ownsRow 0 el i.size val n xs) (hs : Src P i.size tx x m news w) (hb : i.bytes ≤ 4096) (hnm : n + m ≤ 2147483648) :
    ∃ val' w', (Builtin.append_ #[t, tx] ty #[val, x]).run P w = .ok val' w' ∧ w'.ownsRow 0 el i.size val' (n + m) (xs ++ news) ∧
      w'.os = w.os ∧ w'.tape = w.tape ∧ w'.output = w.output ∧ w.heap.size ≤ w'.heap.size ∧
      (∀ b, b < w.heap.size → val.ownBlock ≠ some b → w'.heap[b]? = w.heap[b]?) ∧ (val'.ownBlock = val.ownBlock ∨ val'.ownBlock = some w.heap.size) ∧ (∀ b, val'.ownBlock = some b → b < w'.heap.size) ∧ blkOf val' = val'.ownBlock := by
  refine append_core hzs hown hs.newsLen hs.one hb hnm ?_ ?_ ?_
  · rintro rfl rfl rfl
    have hn0 : news = [] := List.eq_nil_of_length_eq_zero (by rw [hs.newsLen]; simp)
    subst hn0
    rcases hs.kind with ⟨e', hk⟩ | hk <;> simp [Builtin.append_, run_underlying ht, run_underlying hk, sizeOf, typeInfo, hi, hs.len, hs.cells]
  · rintro base cap rfl hfirst hlt hfit
    exact run_append_grow_src (P := P) w t tx ty el i z ht hi hz base n cap xs hfirst x m news hs hlt (by omega) hfit
  · rintro g cap W rfl hroom hst
    rcases hs.kind with ⟨e', hk⟩ | hk <;> simp [Builtin.append_, run_underlying ht, run_underlying hk, sizeOf, typeInfo, hi, hs.len, hroom, hs.cells, Addr.add_lit, hst]

/-- append(s, make([]T, n)...): as many zero values. -/
theorem append_ownZ {t tx ty el : Nat} {k : IntKind} {i : TypeInfo} {z : Value} {m n : Nat} {val : Value} {xs : List Value} (ht : P.underlying t = some (.slice el)) (hk : P.underlying tx = some (.int k)) (hi : P.info? el = some i) (hz : i.zero = some z) (hzs : z.cells.size = i.size) (hsz : 0 < i.size)
    (hown : w.ownsRow 0 el i.size val n xs) (hone : ∀ u ∈ z.cells.toList, u.oneCell' = true) (hb : i.bytes ≤ 4096) (hnm : n + m ≤ 2147483648) :
    ∃ val' w', (Builtin.append_ #[t, tx] ty #[val, .int .i64 m]).run P w = .ok val' w' ∧ w'.ownsRow 0 el i.size val' (n + m) (xs ++ (Builtin.zeroCells z.cells m).toList) ∧
      w'.os = w.os ∧ w'.tape = w.tape ∧ w'.output = w.output ∧ w.heap.size ≤ w'.heap.size ∧
      (∀ b, b < w.heap.size → val.ownBlock ≠ some b → w'.heap[b]? = w.heap[b]?) ∧ (val'.ownBlock = val.ownBlock ∨ val'.ownBlock = some w.heap.size) ∧ (∀ b, val'.ownBlock = some b → b < w'.heap.size) ∧ blkOf val' = val'.ownBlock := by
  have hwr : IntKind.i64.wrap (m : Int) = m := by rw [IntKind.wrap_i64]; omega
  have hmb : ¬ ((281474976710656 : Int) < (m : Int) * (i.bytes : Int)) := by
    have : m * i.bytes ≤ 2147483648 * 4096 := Nat.mul_le_mul (by omega) hb
    have h2 : ((m * i.bytes : Nat) : Int) ≤ 8796093022208 := by omega
    rw [Int.natCast_mul] at h2
    omega
  have hneg : ¬ ((m : Int) < 0) := by omega
  have hzero : ∀ W : World, (if m * i.size = 0 then pure #[] else do pure (Builtin.zeroCells (← zeroValue el).cells m) : Sem (Array Value)).run P W = .ok (Builtin.zeroCells z.cells m) W := by
    intro W
    by_cases h0 : m * i.size = 0
    · have : m = 0 := by
        rcases Nat.mul_eq_zero.1 h0 with h | h
        · exact h
        · omega
      subst this
      simp [Builtin.zeroCells]
    · simp [h0, zeroValue, typeInfo, hi, hz]
  refine append_core (news := (Builtin.zeroCells z.cells m).toList) hzs hown (by rw [Array.length_toList, size_zeroCells, hzs]) ?_ hb hnm ?_ ?_ ?_
  · intro u hu
    simp only [Builtin.zeroCells, Array.toList_map, List.mem_map] at hu
    obtain ⟨q, hq, rfl⟩ := hu
    have hqlt : q % z.cells.size < z.cells.size := Nat.mod_lt _ (by omega)
    simp only [hqlt, getElem!_pos]
    exact hone _ (by simp)
  · rintro rfl rfl rfl
    have hw0 : IntKind.i64.wrap 0 = 0 := by rw [IntKind.wrap_i64]; decide
    simp [Builtin.append_, run_underlying ht, run_underlying hk, sizeOf, typeInfo, hi, asInt, asIntOf, hw0]
  · rintro base cap rfl hfirst hlt hfit
    have h1 : ¬ (n + m ≤ cap) := by omega
    have h3 : ¬ (9223372036854775807 < ((n : Int) + (m : Int))) := by omega
    have h48' : ¬ (281474976710656 < Builtin.nextslicecap (n + m) cap * i.bytes) := by omega
    by_cases h0 : m * i.size = 0
    · have hm0 : m = 0 := by
        rcases Nat.mul_eq_zero.1 h0 with h | h
        · exact h
        · omega
      have hzc : Builtin.zeroCells z.cells m = #[] := by rw [hm0]; simp [Builtin.zeroCells]
      simp [Builtin.append_, run_underlying ht, run_underlying hk, sizeOf, typeInfo, zeroValue, hi, hz, asInt, asIntOf, hwr, hmb, h1, h3, h48', Question.forced, hfirst, newRow, grownCap, hneg, h0, hzc]
    · simp [Builtin.append_, run_underlying ht, run_underlying hk, sizeOf, typeInfo, zeroValue, hi, hz, asInt, asIntOf, hwr, hmb, h1, h3, h48', Question.forced, hfirst, newRow, grownCap, hneg, h0]
      congr 2
      apply Array.ext'
      simp [List.append_assoc]
  · rintro g cap W rfl hroom hst
    by_cases h0 : m * i.size = 0
    · have hm0 : m = 0 := by
        rcases Nat.mul_eq_zero.1 h0 with h | h
        · exact h
        · omega
      have hzc : (Builtin.zeroCells z.cells m).toList = [] := by rw [hm0]; simp [Builtin.zeroCells]
      rw [hzc] at hst
      simp [Builtin.append_, run_underlying ht, run_underlying hk, sizeOf, typeInfo, hi, asInt, asIntOf, hwr, hmb, hroom, hneg, h0, Addr.add_lit, hst]
    · simp [Builtin.append_, run_underlying ht, run_underlying hk, sizeOf, typeInfo, hi, hz, zeroValue, asInt, asIntOf, hwr, hmb, hroom, hneg, h0, Addr.add_lit, hst]

/-- What is appended, out of a view. -/
theorem View.src {el' tx : Nat} {es : List (List IV)} {sz : Nat} (hk : P.underlying tx = some (.slice el')) (hv : View w S es u) (hz : ∀ (i : Nat) (d : List IV), es[i]? = some d → d.length = sz) :
    ∃ news, Src P sz tx u es.length news w ∧ RowRel w S sz es news := by
  obtain ⟨a, c, rfl, _, h2⟩ := hv
  by_cases h0 : es.length = 0
  · have : es = [] := List.eq_nil_of_length_eq_zero h0
    subst this
    refine ⟨[], ?_, fun i d hd => by simp at hd, fun i d j x u hd => by simp at hd⟩
    cases a with
    | none => exact Src.ofNil w hk c
    | some a => exact Src.ofSlice w hk a 0 c [] (by simp) (fun j u hu => by simp at hu) (fun _ hu => by cases hu)
  · rcases h2 with h2 | ⟨b, off, sz', g, rfl, hs, hc⟩
    · omega
    · obtain ⟨d0, hd0⟩ : ∃ d0, es[0]? = some d0 := ⟨es[0]'(by omega), List.getElem?_eq_getElem (by omega)⟩
      have e1 := hz 0 d0 hd0
      have e2 := hs 0 d0 hd0
      have e3 : sz' = sz := by omega
      subst e3
      by_cases hsz : sz' = 0
      · subst hsz
        refine ⟨[], Src.ofSlice w hk _ _ c [] (by simp) (fun j u hu => by simp at hu) (fun _ hu => by cases hu), hz, fun i d j x u h1 h2 => ?_⟩
        have := hz i d h1
        rw [List.eq_nil_of_length_eq_zero this] at h2
        simp at h2
      · have hpos : 0 < sz' := Nat.pos_of_ne_zero hsz
        have key : ∀ q, q < es.length * sz' → ∃ d x, es[q / sz']? = some d ∧ d[q % sz']? = some x := by
          intro q hq
          have h1 : q / sz' < es.length := (Nat.div_lt_iff_lt_mul hpos).2 hq
          have h2 := List.getElem?_eq_getElem h1
          have h3 := hz _ _ h2
          have h4 : q % sz' < (es[q / sz']).length := by rw [h3]; exact Nat.mod_lt _ hpos
          exact ⟨_, _, h2, List.getElem?_eq_getElem h4⟩
        have hget : ∀ q v, ((List.range (es.length * sz')).map fun q => g (q / sz') (q % sz'))[q]? = some v → q < es.length * sz' ∧ v = g (q / sz') (q % sz') := by
          intro q v hq
          have hlt : q < es.length * sz' := by have := (List.getElem?_eq_some_iff.1 hq).1; simpa using this
          rw [List.getElem?_map, List.getElem?_range hlt] at hq
          simp at hq
          exact ⟨hlt, hq.symm⟩
        refine ⟨(List.range (es.length * sz')).map fun q => g (q / sz') (q % sz'), Src.ofSlice w hk _ _ c _ (by simp) (fun q v hq => ?_) (fun v hv => ?_), hz, fun i d j x v h1 h2 h3 => ?_⟩
        · obtain ⟨hlt, rfl⟩ := hget q v hq
          obtain ⟨d, x, hd, hx⟩ := key q hlt
          have := (hc _ d _ x hd hx).1
          rw [add_none]
          rwa [show q / sz' * sz' + q % sz' = q by rw [Nat.mul_comm]; exact Nat.div_add_mod q sz'] at this
        · obtain ⟨q, hq⟩ := List.mem_iff_getElem?.1 hv
          obtain ⟨hlt, rfl⟩ := hget q v hq
          obtain ⟨d, x, hd, hx⟩ := key q hlt
          exact oneCell_IRel (hc _ d _ x hd hx).2
        · obtain ⟨_, rfl⟩ := hget _ v h3
          have hj : j < sz' := by
            have := (List.getElem?_eq_some_iff.1 h2).1
            rw [hz i d h1] at this
            exact this
          have hdiv : (i * sz' + j) / sz' = i := by
            rw [Nat.mul_comm, Nat.mul_add_div hpos, Nat.div_eq_of_lt hj, Nat.add_zero]
          have hmod : (i * sz' + j) % sz' = j := by
            rw [Nat.mul_comm, Nat.mul_add_mod, Nat.mod_eq_of_lt hj]
          rw [hdiv, hmod]
          exact (hc i d j x h1 h2).2
end
end Go.Om
