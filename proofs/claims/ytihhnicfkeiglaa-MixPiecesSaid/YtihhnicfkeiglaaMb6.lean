/-
  MixPieces: for every input the law gives true and leaves its arguments as they were. Conditions: none.
-/
import Derived.Test.YtihhnicfkeiglaaRows
import Derived.Test.YtihhnicfkeiglaaMb5
import Derived.Test.YtihhnicfkeiglaaOm31
set_option linter.all false
namespace Go.Proofs.Ytihhnicfkeiglaa
open Go.RowKit Go.Om

theorem Try.own : ownKnob Try.prog.godebug = none := by kernel_rfl
theorem Try.laidOut : laidOutB Try.prog = true := by kernel_rfl
theorem Try.mapsOk : mapsRowed Try.prog = true := by kernel_rfl
theorem Try.slicesOk : ((List.range Try.prog.types.size).all fun t => match Try.prog.underlying t with | some (.slice e) => decide (0 < Try.prog.cellsOf e) | _ => true) = true := by kernel_rfl

theorem Mix.hd_ok : HdOk Try.prog (ac Mix.F Mix.xr Mix.xp) := by
  refine ac_ok (mset := []) (eqs := []) (by kernel_rfl) (fun f fn h => ?_) (fun t h => by simp at h) (fun _ _ _ _ _ h => by simp [Mix.xr] at h) (fun _ _ _ _ _ _ h => by simp [Mix.xp] at h)
  unfold Mix.F at h
  split at h
  · cases h; exact Mix.is6
  · cases h; exact Mix.is7
  · cases h; exact Mix.is8
  · cases h; exact Mix.is9
  · cases h; exact Mix.is24
  · cases h; exact Mix.is25
  · cases h; exact Mix.is3
  · cases h

theorem u64_of {n : Int} (h : (Lit.int .u64 n).wf = true) : IV.int .u64 n = Mix.u64 (BitVec.ofInt 64 n) := by
  simp only [Lit.wf, Bool.and_eq_true, decide_eq_true_eq] at h
  unfold Mix.u64
  congr 1
  simp [IntKind.min, IntKind.max, IntKind.signed, IntKind.bits] at h
  simp
  omega

theorem Mix.law_true : ∀ zs, ArgsHas [(false, [.i .u64]), (false, [.s]), (true, [.i .u64, .i .u64])] zs → ac Mix.F Mix.xr Mix.xp 3 zs ⟨[], 0⟩ = some (.b true, ⟨[], 0⟩) := by
  intro zs h
  obtain ⟨a1, r1, rfl, h1, a2, r2, rfl, h2, a3, r3, rfl, h3, rfl⟩ := h
  obtain ⟨x1, rfl, g1⟩ := h1.one
  obtain ⟨n1, rfl, w1⟩ := g1.i_inv
  obtain ⟨x2, rfl, g2⟩ := h2.one
  obtain ⟨s2, rfl, w2⟩ := g2.s_inv
  obtain ⟨x3, rfl, gg⟩ := h3.agg
  obtain ⟨y3, q3, rfl, g3, e3⟩ := gg.cons_inv
  obtain ⟨y4, q4, rfl, g4, e4⟩ := e3.cons_inv
  have := e4.nil_inv; subst this
  obtain ⟨n3, rfl, w3⟩ := g3.i_inv
  obtain ⟨n4, rfl, w4⟩ := g4.i_inv
  rw [u64_of w1, u64_of w3, u64_of w4]
  exact Mix.law_ac _ _ _ _

set_option maxRecDepth 100000 in
theorem mix_lifted (os : Os) (started : os.Started) (H : Type) (enc : TypeId × Value → H) :
    ReturnsInHanded {} Try.checked os 3 .any (Rows.mixPiecesSpec.pre6 enc Try.prog Try.f3 Rows.mixPiecesRow.domain false) (Rows.mixPiecesSpec.post enc Try.prog Try.f3 false true false false) :=
  law_lifted (C := Try.checked) Try.own started (by kernel_rfl) Try.func3
    (ChangeSpec.witness6 (enc := enc) (C := Try.checked) false ⟨#[], #[.int .u64 0, .string ByteArray.empty, .agg #[.int .u64 0, .int .u64 0]], []⟩ 8 (by kernel_rfl) (by kernel_rfl) (by kernel_rfl) (by kernel_rfl))
    Try.laidOut Try.mapsOk Try.slicesOk (by kernel_rfl) rfl
    (fun ds h => by match ds, h with | [_, _, _], _ => rfl)
    (tb := 4) (by kernel_rfl) (by kernel_rfl) (sig := [(false, [.i .u64]), (false, [.s]), (true, [.i .u64, .i .u64])]) (m := 8) (by kernel_rfl) Mix.hd_ok Mix.law_true

theorem mixPieces_holds : Rows.MixPiecesSaid :=
  OpenClaim.holds_of_wide 3 Try.f3 rfl rfl rfl rfl rfl rfl rfl ⟨rfl, rfl, rfl, rfl, rfl⟩ rfl rfl rfl rfl rfl (by kernel_rfl) Try.func3 (by kernel_rfl)
    (of_decide_eq_true (by kernel_rfl)) (by unfold Func.isWrapper; first | (rw [if_pos (by decide +kernel)]; kernel_rfl) | (rw [if_neg (by decide +kernel)]; exact ⟨rfl, rfl⟩))
    (fun os started H enc _ => mix_lifted os started H enc)

end Go.Proofs.Ytihhnicfkeiglaa
