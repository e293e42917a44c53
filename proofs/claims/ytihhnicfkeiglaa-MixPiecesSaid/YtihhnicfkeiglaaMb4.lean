/-
  MixPieces: the plain law for texts: one other byte is one other piece, and another sum.
-/
import Derived.Test.YtihhnicfkeiglaaMa5
import Derived.Test.YtihhnicfkeiglaaMb3
set_option linter.all false
namespace Go.Proofs.Ytihhnicfkeiglaa.Mix
open Go Go.Om

def tB (h : BitVec 64) (bs : List UInt8) : List (BitVec 64) := (bs.zipIdx).foldl (fun l p => putB l p.2 p.1) [h]
theorem tB_snoc (h : BitVec 64) (bs : List UInt8) (b : UInt8) : tB h (bs ++ [b]) = putB (tB h bs) bs.length b := by
  simp [tB, List.zipIdx_append, List.foldl_append]
theorem byte_bit (c : UInt8) (j : Nat) (hj : 8 ≤ j) : c.toNat.testBit j = false := by
  refine Nat.testBit_lt_two_pow (Nat.lt_of_lt_of_le c.toNat_lt ?_)
  exact Nat.pow_le_pow_right (by omega) hj
theorem putB_get (l : List (BitVec 64)) (n : Nat) (b : UInt8) (hl : l.length = 1 + (n + 7) / 8) (q : Nat) : (putB l n b).getD q 0 = if q = n / 8 + 1 then l.getD q 0 ||| (BitVec.ofNat 64 b.toNat <<< (8 * (n % 8))) else l.getD q 0 := by
  unfold putB
  by_cases hm : n % 8 = 0
  · simp only [hm, if_true, List.length_append, List.length_singleton, Nat.add_sub_cancel]
    have h1 : l.length = n / 8 + 1 := by omega
    simp only [List.getD_eq_getElem?_getD, List.getElem?_set, List.length_append, List.length_singleton]
    by_cases hq : q = n / 8 + 1
    · subst hq
      simp [h1]
    · rw [if_neg (by omega), if_neg hq]
      by_cases hq2 : q < l.length
      · rw [List.getElem?_append_left hq2]
      · rw [List.getElem?_append_right (by omega), List.getElem?_eq_none (by omega : l.length ≤ q), List.getElem?_eq_none (by simp; omega)]
  · simp only [hm, if_false]
    have h1 : l.length - 1 = n / 8 + 1 := by omega
    simp only [h1, List.getD_eq_getElem?_getD, List.getElem?_set]
    by_cases hq : q = n / 8 + 1
    · subst hq
      simp [show n / 8 + 1 < l.length by omega]
    · rw [if_neg (by omega), if_neg hq]

theorem snoc_ind {α : Type} {P : List α → Prop} (h0 : P []) (h1 : ∀ l a, P l → P (l ++ [a])) (l : List α) : P l := by
  rw [← List.reverse_reverse l]
  induction l.reverse with
  | nil => exact h0
  | cons a r ih => rw [List.reverse_cons]; exact h1 _ _ ih
theorem tB_inv (h : BitVec 64) (bs : List UInt8) : (tB h bs).length = 1 + (bs.length + 7) / 8 ∧ (tB h bs).getD 0 0 = h ∧ ∀ q p, p < 64 → ((tB h bs).getD (q + 1) 0).getLsbD p = (bs.getD (8 * q + p / 8) 0).toNat.testBit (p % 8) := by
  induction bs using snoc_ind with
  | h0 => simp [tB]
  | h1 bs b ih =>
    obtain ⟨h1, h2, h3⟩ := ih
    rw [tB_snoc]
    refine ⟨?_, ?_, ?_⟩
    · rw [putB_len, h1, List.length_append, List.length_singleton]
      split <;> omega
    · rw [putB_get _ _ _ h1, if_neg (by omega), h2]
    · intro q p hp
      rw [putB_get _ _ _ h1]
      have hb : ∀ x y, BitVec.getLsbD (BitVec.ofNat 64 b.toNat <<< x) y = (decide (y < 64) && !decide (y < x) && b.toNat.testBit (y - x)) := by
        intro x y
        simp only [BitVec.getLsbD_shiftLeft, BitVec.getLsbD_ofNat]
        by_cases hy : y < 64 <;> by_cases hx : y < x <;> simp [hy, hx]
        intro _; omega
      by_cases hlt : 8 * q + p / 8 < bs.length
      · have e1 : (bs ++ [b]).getD (8 * q + p / 8) 0 = bs.getD (8 * q + p / 8) 0 := by
          simp only [List.getD_eq_getElem?_getD]; rw [List.getElem?_append_left hlt]
        rw [e1]
        split
        · rename_i hq
          rw [BitVec.getLsbD_or, h3 q p hp, hb]
          have : p < 8 * (bs.length % 8) := by omega
          simp [this]
        · exact h3 q p hp
      · by_cases heq : 8 * q + p / 8 = bs.length
        · have e1 : (bs ++ [b]).getD (8 * q + p / 8) 0 = b := by
            simp only [List.getD_eq_getElem?_getD]; rw [List.getElem?_append_right (by omega), heq]; simp
          have e2 : bs.getD (8 * q + p / 8) 0 = 0 := by
            simp only [List.getD_eq_getElem?_getD]; rw [List.getElem?_eq_none (by omega)]; rfl
          rw [e1, if_pos (by omega), BitVec.getLsbD_or, h3 q p hp, e2, hb]
          have g1 : ¬ p < 8 * (bs.length % 8) := by omega
          have g2 : p - 8 * (bs.length % 8) = p % 8 := by omega
          simp [hp, g1, g2]
        · have e1 : (bs ++ [b]).getD (8 * q + p / 8) 0 = 0 := by
            simp only [List.getD_eq_getElem?_getD]; rw [List.getElem?_eq_none (by simp; omega)]; rfl
          have e2 : bs.getD (8 * q + p / 8) 0 = 0 := by
            simp only [List.getD_eq_getElem?_getD]; rw [List.getElem?_eq_none (by omega)]; rfl
          rw [e1]
          split
          · rename_i hq
            rw [BitVec.getLsbD_or, h3 q p hp, e2, hb, byte_bit b _ (by omega)]
            simp
          · rw [h3 q p hp, e2]

theorem textB_tB (bs : List UInt8) : textB bs = tB (BitVec.ofNat 64 bs.length) bs := rfl

theorem text_set (x : BitVec 64) (bs : List UInt8) (i : Nat) (hi : i < bs.length) (c : UInt8) : foldB x (textB (bs.set i c)) = foldB x (textB bs) ↔ c = bs[i] := by
  rw [textB_tB, textB_tB, List.length_set]
  obtain ⟨a1, a2, a3⟩ := tB_inv (BitVec.ofNat 64 bs.length) bs
  obtain ⟨b1, b2, b3⟩ := tB_inv (BitVec.ofNat 64 bs.length) (bs.set i c)
  rw [List.length_set] at b1
  have hk : i / 8 + 1 < (tB (BitVec.ofNat 64 bs.length) bs).length := by omega
  have hg : ∀ k, (bs.set i c).getD k 0 = if i = k then c else bs.getD k 0 := by
    intro k
    simp only [List.getD_eq_getElem?_getD, List.getElem?_set]
    split
    · rename_i h; subst h; simp [hi]
    · rfl
  have hB : tB (BitVec.ofNat 64 bs.length) (bs.set i c) = (tB (BitVec.ofNat 64 bs.length) bs).set (i / 8 + 1) ((tB (BitVec.ofNat 64 bs.length) (bs.set i c)).getD (i / 8 + 1) 0) := by
    refine List.ext_getElem (by rw [List.length_set]; omega) fun k h1 h2 => ?_
    rw [List.getElem_set]
    split
    · rename_i h; subst h
      rw [List.getD_eq_getElem?_getD, List.getElem?_eq_getElem h1]; rfl
    · rename_i hne
      have q1 : (tB (BitVec.ofNat 64 bs.length) (bs.set i c))[k] = (tB (BitVec.ofNat 64 bs.length) (bs.set i c)).getD k 0 := by rw [List.getD_eq_getElem?_getD, List.getElem?_eq_getElem h1]; rfl
      have q2 : (tB (BitVec.ofNat 64 bs.length) bs)[k]'(by omega) = (tB (BitVec.ofNat 64 bs.length) bs).getD k 0 := by rw [List.getD_eq_getElem?_getD, List.getElem?_eq_getElem (by omega)]; rfl
      rw [q1, q2]
      cases k with
      | zero => rw [a2, b2]
      | succ q =>
        refine BitVec.eq_of_getLsbD_eq fun p hp => ?_
        rw [a3 q p hp, b3 q p hp, hg, if_neg (by omega)]
  have hset := fold_set x (tB (BitVec.ofNat 64 bs.length) bs) (i / 8 + 1) hk ((tB (BitVec.ofNat 64 bs.length) (bs.set i c)).getD (i / 8 + 1) 0)
  rw [← hB] at hset
  rw [hset]
  have q2 : (tB (BitVec.ofNat 64 bs.length) bs)[i / 8 + 1] = (tB (BitVec.ofNat 64 bs.length) bs).getD (i / 8 + 1) 0 := by rw [List.getD_eq_getElem?_getD, List.getElem?_eq_getElem hk]; rfl
  rw [q2]
  have hbi : bs.getD i 0 = bs[i] := by rw [List.getD_eq_getElem?_getD, List.getElem?_eq_getElem hi]; rfl
  constructor
  · intro h
    refine UInt8.toNat_inj.1 (Nat.eq_of_testBit_eq fun j => ?_)
    by_cases hj : j < 8
    · have h4 := congrArg (fun z => BitVec.getLsbD z (8 * (i % 8) + j)) h
      simp only [a3 (i / 8) (8 * (i % 8) + j) (by omega), b3 (i / 8) (8 * (i % 8) + j) (by omega), hg] at h4
      rw [if_pos (by omega)] at h4
      have e1 : 8 * (i / 8) + (8 * (i % 8) + j) / 8 = i := by omega
      have e2 : (8 * (i % 8) + j) % 8 = j := by omega
      rw [e1, e2, hbi] at h4
      exact h4
    · rw [byte_bit _ _ (by omega), byte_bit _ _ (by omega)]
  · intro h
    rw [h, show bs.set i bs[i] = bs from List.set_getElem_self ..]
end Go.Proofs.Ytihhnicfkeiglaa.Mix
