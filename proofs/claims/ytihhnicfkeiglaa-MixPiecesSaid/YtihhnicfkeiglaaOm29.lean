/-
  Om: calls as one equation; reading of environments.
-/
import Derived.Test.YtihhnicfkeiglaaOm28
set_option linter.all false
namespace Go.Om
open Go Go.RowKit

section
variable {xr : Xr} {hd : Hdl} {h h' : Hp} {v : AV}

/-- A call that hands over trees alone and gives trees alone. -/
theorem callV_tree {g : Nat} {vs vs' : List AV} {l : Bool} (ha : argTs h vs [] = some (vs', [], l)) (hr : hd g vs' ⟨[], 0⟩ = some (v, ⟨[], 0⟩)) (hl : l = true → scalR v = true) (hv : ∀ m nv, ren m nv 0 0 v = v) : callV xr hd false (.fn g []) vs h = some (v, h) := by
  have hlv : (l && !(scalR v)) = false := by
    cases l with
    | false => rfl
    | true => simp [hl rfl]
  simp [callV, ha, viaHd, given, hr, takeBack, hv]
  cases l with
  | false => simp
  | true => simp [hl rfl]
@[simp] theorem ren_iv {m nv nk n1 : Nat} {x : IV} : ren m nv nk n1 (.iv x) = .iv x := rfl
theorem finR_nrm {fn : AFn} {nk : Nat} {e' : AEnv} {h' : Hp} : finR fn nk (some (.nrm, e', h')) = (aresult e' h' fn.res).bind fun v => finish fn.own nk v h' := rfl
theorem finR_ret {fn : AFn} {nk : Nat} {e' : AEnv} {h' : Hp} : finR fn nk (some (.ret, e', h')) = (aresult e' h' fn.res).bind fun v => finish fn.own nk v h' := rfl
theorem upd_get {e : AEnv} {t n : Nat} {v : AV} : upd e (some t) v n = if n = t then v else e n := rfl
theorem upd_none {e : AEnv} {v : AV} : upd e none v = e := rfl
end

section
variable {F : Nat → Option AFn} {xr : Xr} {xp : Hdl} {e : AEnv} {h : Hp}
/-- A loop's next round; its body is told by an equation, and stays a name behind it. -/
theorem aex_loop_of {b b' : AC} (hb : b = b') : aex F xr xp (.loop b) e h = Out.andThen (aex F xr xp b' e h) (aex F xr xp (.loop b)) := by
  subst hb
  exact aex_loop
end
end Go.Om
