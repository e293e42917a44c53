/-
  Om: the model's code turned into Om's instructions, and the look at regions whose order is open.
-/
import Derived.Test.YtihhnicfkeiglaaOm1
import Derived.CheckFast
set_option linter.all false
namespace Go.Om
open Go

def cval1 : Value → AV
  | .bool b => .iv (.bool b)
  | .int k n => .iv (.int k n)
  | .string s => .iv (.str s)
  | .slice none 0 0 => .nils
  | _ => .un
def cval : Value → AV
  | .agg cs => .agg (cs.toList.map cval1)
  | .tuple _ => .un
  | v => cval1 v
def cOpd : Operand → Option Opd
  | .tmp t => some (.tmp t)
  | .const v => some (.con (cval v))
  | .func f => some (.con (.fn f []))
  | .global _ => none
def cOpds : List Operand → Option (List Opd)
  | [] => some []
  | x :: r => (cOpd x).bind fun a => (cOpds r).map (a :: ·)

def tsz (P : Program) (t : Nat) : Option Nat := (P.info? t).map (·.size)
def tby (P : Program) (t : Nat) : Option Nat := (P.info? t).map (·.bytes)
def tagg (P : Program) (t : Nat) : Option Bool := match P.underlying t with
  | some (.struct _) | some (.array _ _) => some true
  | some _ => some false
  | none => none
def tzero (P : Program) (t : Nat) : Option (List AV) := (P.info? t).bind fun i => i.zero.map fun z => z.cells.toList.map cval1
def tzeroI (P : Program) (t : Nat) : Option (List IV) := (tzero P t).bind toIVs


def cParts (P : Program) (places : List (Nat × Nat)) : List (Nat × Operand) → Option (List (Nat × Nat × Opd))
  | [] => some []
  | (i, x) :: r => match places[i]? with
    | some (off, n) => (cOpd x).bind fun a => (cParts P places r).map ((off, n, a) :: ·)
    | none => none
def cPartsS : List (Nat × Operand) → Option (List (Nat × Opd))
  | [] => some []
  | (i, x) :: r => (cOpd x).bind fun a => (cPartsS r).map ((i, a) :: ·)
def places (P : Program) : List Field → Option (List (Nat × Nat))
  | [] => some []
  | f :: r => (tsz P f.type).bind fun n => (places P r).map ((f.offset, n) :: ·)

/-- Is a value of this type handed over with what it leads to: a pointer, a function? -/
def tref (P : Program) (t : Nat) : Bool := match P.underlying t with
  | some (.pointer _) | some (.func ..) => true
  | none => true
  | _ => false

def sameOpd : Operand → Operand → Bool
  | .tmp a, .tmp b => a == b
  | .const (.int .i64 a), .const (.int .i64 b) => a == b
  | _, _ => false

def compIns (P : Program) (mset eqs : List Nat) (op : Op) (ty : Nat) : Option AI :=
  match op with
  | .move x | .assign x => (cOpd x).map .mov
  | .pick c a b => (cOpd c).bind fun c => (cOpd a).bind fun a => (cOpd b).map fun b => .pick c a b
  | .box t x => (cOpd x).map fun a => .box t a
  | .alloc t => (tzero P t).map fun z => .zbox t z
  | .load t p => (tagg P t).bind fun g => (cOpd p).bind fun p => if g then (tsz P t).map fun n => .ldA n p else some (.ld1 p)
  | .store t p v => (tsz P t).bind fun n => (cOpd p).bind fun p => (cOpd v).map fun v => .st n p v
  | .fieldAddr s p f => match P.underlying s with
    | some (.struct fs) => match fs[f]? with
      | some fd => (tsz P fd.type).bind fun n => if n = 0 then none else (cOpd p).map fun p => .fadr fd.offset p
      | none => none
    | _ => none
  | .field t x f => match P.underlying t with
    | some (.struct fs) => match fs[f]? with
      | some fd => (tagg P fd.type).bind fun g => (tsz P fd.type).bind fun n => (cOpd x).map fun x => .fld g n fd.offset x
      | none => none
    | _ => none
  | .indexAddr t x ix => (cOpd x).bind fun x => (cOpd ix).bind fun ix => match P.underlying t with
    | some (.array len e) => (tsz P e).map fun n => .iadrA len n x ix
    | some (.slice e) => (tsz P e).map fun n => .iadrS n x ix
    | _ => none
  | .index t x ix => (cOpd x).bind fun x => (cOpd ix).bind fun ix => match P.underlying t with
    | some (.array len e) => (tagg P e).bind fun g => (tsz P e).map fun n => .idxA g len n x ix
    | some .string => some (.idxStr x ix)
    | _ => none
  | .slice t x lo hi none => (cOpd x).bind fun x =>
    (match lo with | none => some none | some l => (cOpd l).map some).bind fun lo =>
    (match hi with | none => some none | some l => (cOpd l).map some).bind fun hi => match P.underlying t with
    | some .string => some (.slcStr x lo hi)
    | some (.slice e) => (tsz P e).map fun n => .slcS n x lo hi
    | _ => none
  | .binOp op t x y _ => (cOpd x).bind fun x => (cOpd y).bind fun y => match P.underlying t with
    | some (.int _) | some .string => some (.bin op x y)
    | some .bool => some (.binB op x y)
    | some (.struct _) | some (.array _ _) => if eqs.contains t then (match op with
      | .eql => some (.aeq t false x y)
      | .neq => some (.aeq t true x y)
      | _ => none) else none
    | _ => none
  | .unOp op _ x => (cOpd x).map fun x => .una op x
  | .convert s d x => (cOpd x).bind fun x => match P.underlying s, P.underlying d with
    | some (.int _), some (.int k) => some (.cvtI k x)
    | some (.slice e), some .string => (match P.underlying e with
      | some (.int .u8) => some (.cvtBS x)
      | _ => none)
    | some .string, some (.slice e) => (match P.underlying e with
      | some (.int .u8) => some (.cvtSB e x)
      | _ => none)
    | _, _ => none
  | .build t parts => match P.underlying t with
    | some (.struct fs) => (places P fs.toList).bind fun pl => (cParts P pl parts.toList).bind fun ps => (tzero P t).map fun z => .build z ps
    | some (.array len e) => (tsz P e).bind fun n => (cParts P ((List.range len).map fun i => (i * n, n)) parts.toList).bind fun ps => (tzero P t).map fun z => .build z ps
    | _ => none
  | .buildSlice t len parts => match P.underlying t with
    | some (.slice e) => (tsz P e).bind fun n => if n = 0 then none else (tzeroI P e).bind fun z => if z.length = n then (cPartsS parts.toList).map fun ps => .bslice e n z len ps else none
    | _ => none
  | .makeSlice t l c => match P.underlying t with
    | some (.slice e) => (tsz P e).bind fun n => (tby P e).bind fun b => if n = 0 ∨ b > 4096 then none else (tzeroI P e).bind fun z => if z.length = n ∧ sameOpd l c = true then (cOpd l).map fun l => .mslice e n z l else none
    | _ => none
  | .makeFunc (.func f) first caps => if first.isEmpty then (cOpds caps.toList).map fun cs => .mfn f cs else none
  | .extract x i => (cOpd x).map fun x => .ext x i
  | .nilCheck x => (cOpd x).map fun x => .nilck x
  | .call c => match c.callee with
    | .value f => (cOpd f).bind fun f' => (cOpds c.args.toList).map fun xs =>
        .call (match f with | .func g => mset.contains g || c.argTypes.any (tref P) | _ => true) f' xs
    | .invoke _ _ => none
    | .builtin b => match b, c.argTypes.toList, c.args.toList with
      | .len, [t], [x] => (match P.underlying t with
        | some .string => (cOpd x).map fun x => .lenStr x
        | some (.slice _) => (cOpd x).map fun x => .len x
        | some (.array n _) => some (.lenA n)
        | _ => none)
      | .append, [t, u], [s, x] => (match P.underlying t with
        | some (.slice e) => (tsz P e).bind fun n => (tby P e).bind fun b => if n = 0 ∨ b > 4096 then none else (cOpd s).bind fun s => (cOpd x).bind fun x => (tzeroI P e).bind fun z => if z.length = n then
            (match P.underlying u with
            | some (.int .i64) => some (.appz e n z s x)
            | some (.slice e') => if e' = e then some (.app e n s x) else none
            | some .string => (match P.underlying e with
              | some (.int .u8) => if n = 1 then some (.appS e s x) else none
              | _ => none)
            | _ => none) else none
        | _ => none)
      | .min, t :: _, xs => (match P.underlying t with
        | some (.int _) => (cOpds xs).map fun xs => .mnx false xs
        | _ => none)
      | .max, t :: _, xs => (match P.underlying t with
        | some (.int _) => (cOpds xs).map fun xs => .mnx true xs
        | _ => none)
      | _, _, _ => none
  | _ => let _ := ty; none

def compGuard (ops : Array Oper) : Option (Nat × Bool) → Option (Option (Nat × Bool))
  | none => some none
  | some (j, want) => match (ops[j]?).bind (·.dst) with
    | some t => some (some (t, want))
    | none => none
def compOp (P : Program) (mset eqs : List Nat) (ops : Array Oper) (o : Oper) : Option AOp :=
  (compIns P mset eqs o.op o.type).bind fun i => (compGuard ops o.guard).map fun g => ⟨o.dst, i, g⟩
def compOps (P : Program) (mset eqs : List Nat) (ops : Array Oper) : List Oper → Option (List AOp)
  | [] => some []
  | o :: r => (compOp P mset eqs ops o).bind fun a => (compOps P mset eqs ops r).map (a :: ·)

/-! ### the temporaries that an operation reads -/
def Opd.rd : Opd → List Nat
  | .tmp t => [t]
  | .con _ => []
def AI.rds (i : AI) : List Nat := i.opds.flatMap (·.rd)
def AOp.rds (o : AOp) : List Nat := (match o.guard with | none => [] | some (t, _) => [t]) ++ o.ins.rds

/-- What i writes: nobody else writes it; who reads it is ordered against i; what turns the heap is in order. -/
def orderOk1 (b : List Nat) (ax : List AOp) (i j : Nat) : Bool :=
  match ax[i]?, ax[j]? with
  | some x, some y =>
    (match x.dst with
     | none => true
     | some d => i == j || (y.dst != some d && (!y.rds.contains d || told b i j))) && (i == j || !(x.ins.heap && y.ins.heap) || told b i j)
  | _, _ => true
def edgesOk (ops : Array Oper) : Bool := ops.toList.zipIdx.all fun (o, i) => o.after.toList.all fun e => !Region.binds .any e || decide (e.on < i)
/-- Each order that a mask tells stands behind an edge. -/
def masksOk (ops : Array Oper) (b : List Nat) : Bool :=
  ops.toList.zipIdx.all fun (o, j) => (List.range ops.size).all fun i => !bit (b.getD j 0) i || o.after.toList.any fun e => Region.binds .any e && (i == e.on || bit (b.getD e.on 0) i)
def orderOk (ops : Array Oper) (b : List Nat) (ax : List AOp) : Bool :=
  edgesOk ops && masksOk ops b && (List.range ax.length).all fun i => (List.range ax.length).all fun j => orderOk1 b ax i j

/-! ### code -/
def tmpsOk (n : Nat) (ax : List AOp) : Bool := ax.all fun o => (match o.dst with | none => true | some d => decide (d < n)) && o.rds.all (fun t => decide (t < n))
def compC (P : Program) (mset eqs : List Nat) (n : Nat) : Code → Option AC
  | .skip => some .skip
  | .label _ => some .skip
  | .region _ ops draw => (compOps P mset eqs ops ops.toList).bind fun ax => if tmpsOk n ax then (if draw then (if orderOk ops (Go.CheckFast.beforeF ops).toList ax then some (.regD (Go.CheckFast.beforeF ops).toList ax) else none) else some (.reg ax)) else none
  | .seq a b => (compC P mset eqs n a).bind fun a => (compC P mset eqs n b).map fun b => .seq a b
  | .cond c a b => match c with
    | .tmp t => if t < n then (compC P mset eqs n a).bind fun a => (compC P mset eqs n b).map fun b => .cond (.tmp t) a b else none
    | _ => none
  | .block id a => (compC P mset eqs n a).map (.block id)
  | .loop a => (compC P mset eqs n a).map .loop
  | .scope a => compC P mset eqs n a
  | .exit id => some (.exit id)
  | .ret => some .ret
  | _ => none
/-- Without the bookkeeping. -/
def AC.bare : AC → AC
  | .seq a b => .seq a.bare b.bare
  | .cond c a b => .cond c a.bare b.bare
  | .block id a => .block id a.bare
  | .loop a => .loop a.bare
  | .gh _ a => a.bare
  | c => c
def ghOk (n : Nat) : AC → Bool
  | .seq a b => ghOk n a && ghOk n b
  | .cond _ a b => ghOk n a && ghOk n b
  | .block _ a => ghOk n a
  | .loop a => ghOk n a
  | .gh g a => (match g with | .adopt _ _ t => decide (t < n) | .freeze t => decide (t < n) | _ => true) && ghOk n a
  | _ => true
def compRes (P : Program) (n : Nat) : List ResultVar → Option (List ARes)
  | [] => some []
  | .tmp t :: r => if t < n then (compRes P n r).map (.tmp t :: ·) else none
  | .cell a t :: r => if a < n then (tagg P t).bind fun g => (tsz P t).bind fun s => (compRes P n r).map ((if g then .cellA a s else .cell1 a) :: ·) else none
/-- Is this Om's code of that function? -/
def IsFn (P : Program) (mset eqs : List Nat) (f : Nat) (a : AFn) : Prop :=
  ∃ fn c, P.funcs[f]? = some fn ∧ fn.body = some c ∧ fn.ntmps = a.nt ∧ fn.params.size + fn.nfree ≤ a.nt ∧ compC P mset eqs a.nt c = some a.code.bare ∧ ghOk a.nt a.code = true ∧ compRes P a.nt fn.results.toList = some a.res ∧ fn.name ≠ "runtime.NumGoroutine"
end Go.Om
