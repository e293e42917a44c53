/-
  The abstract machine Om: pure trees for what is read, objects for what the running call owns. Definitions: values, instructions, the interpreter, and the translation of the model's code into its instructions.
-/
import Derived.Calls
import Derived.Orders
set_option linter.all false
namespace Go.Om
open Go

/-- A pure tree: a scalar, or a slice by its elements' cells. -/
inductive IV where
  | int (k : IntKind) (n : Int)
  | bool (b : Bool)
  | str (s : ByteArray)
  | sl (es : List (List IV))

/-- An abstract value. osl: a row that the call owns, by its number and its stamp; osub: a part of one; ptr: a cell of an object; iptr: cells of a tree. -/
inductive AV where
  | iv (x : IV)
  | nils
  | agg (cs : List AV)
  | osl (k ver : Nat)
  | osub (k ver off len : Nat)
  | ptr (k ver i j : Nat)
  | iptr (cs : List IV)
  | tup (vs : List AV)
  | fn (f : Nat) (caps : List AV)
  | un
instance : Inhabited AV := ⟨.un⟩

abbrev AV.i (n : Int) : AV := .iv (.int .i64 n)
abbrev AV.b (x : Bool) : AV := .iv (.bool x)
abbrev AV.s (x : ByteArray) : AV := .iv (.str x)

inductive Obj where
  | box (e ver : Nat) (cells : List AV)
  | row (e sz ver : Nat) (es : List (List IV))
  | gone

/-- The objects that are owned, and the next stamp. -/
structure Hp where
  objs : List Obj
  nv : Nat

inductive Opd where
  | tmp (t : Nat)
  | con (v : AV)

/-- The instructions, types worked in. -/
inductive AI where
  | mov (a : Opd)
  | pick (c a b : Opd)
  | box (e : Nat) (a : Opd)
  | zbox (e : Nat) (cs : List AV)
  | ldA (n : Nat) (p : Opd)
  | ld1 (p : Opd)
  | st (n : Nat) (p v : Opd)
  | fadr (off : Nat) (p : Opd)
  | fld (agg : Bool) (n off : Nat) (x : Opd)
  | iadrA (len esz : Nat) (p ix : Opd)
  | iadrS (esz : Nat) (x ix : Opd)
  | idxA (agg : Bool) (len n : Nat) (x ix : Opd)
  | idxStr (x ix : Opd)
  | slcStr (x : Opd) (lo hi : Option Opd)
  | slcS (esz : Nat) (x : Opd) (lo hi : Option Opd)
  | bin (op : BinOp) (x y : Opd)
  | binB (op : BinOp) (x y : Opd)
  | aeq (t : Nat) (neg : Bool) (x y : Opd)
  | una (op : UnOp) (x : Opd)
  | cvtI (k : IntKind) (x : Opd)
  | cvtBS (x : Opd)
  | cvtSB (e : Nat) (x : Opd)
  | build (zero : List AV) (parts : List (Nat × Nat × Opd))
  | bslice (e esz : Nat) (zero : List IV) (len : Nat) (parts : List (Nat × Opd))
  | mslice (e esz : Nat) (zero : List IV) (len : Opd)
  | mfn (f : Nat) (caps : List Opd)
  | ext (x : Opd) (i : Nat)
  | nilck (x : Opd)
  | call (m : Bool) (f : Opd) (args : List Opd)
  | app (e esz : Nat) (s x : Opd)
  | appS (e : Nat) (s x : Opd)
  | appz (e esz : Nat) (zero : List IV) (s x : Opd)
  | len (x : Opd)
  | lenStr (x : Opd)
  | lenA (n : Nat)
  | mnx (mx : Bool) (xs : List Opd)

def optl {α : Type} : Option α → List α
  | none => []
  | some x => [x]
/-- The operands. -/
def AI.opds : AI → List Opd
  | .mov a => [a]
  | .pick c a b => [c, a, b]
  | .box _ a => [a]
  | .zbox _ _ => []
  | .ldA _ p => [p]
  | .ld1 p => [p]
  | .st _ p v => [p, v]
  | .fadr _ p => [p]
  | .fld _ _ _ x => [x]
  | .iadrA _ _ p ix => [p, ix]
  | .iadrS _ x ix => [x, ix]
  | .idxA _ _ _ x ix => [x, ix]
  | .idxStr x ix => [x, ix]
  | .slcStr x lo hi => x :: (optl lo ++ optl hi)
  | .slcS _ x lo hi => x :: (optl lo ++ optl hi)
  | .bin _ x y => [x, y]
  | .binB _ x y => [x, y]
  | .aeq _ _ x y => [x, y]
  | .una _ x => [x]
  | .cvtI _ x => [x]
  | .cvtBS x => [x]
  | .cvtSB _ x => [x]
  | .build _ ps => ps.map fun p => p.2.2
  | .bslice _ _ _ _ ps => ps.map fun p => p.2
  | .mslice _ _ _ l => [l]
  | .mfn _ cs => cs
  | .ext x _ => [x]
  | .nilck x => [x]
  | .call _ f xs => f :: xs
  | .app _ _ s x => [s, x]
  | .appS _ s x => [s, x]
  | .appz _ _ _ s x => [s, x]
  | .len x => [x]
  | .lenStr x => [x]
  | .lenA _ => []
  | .mnx _ xs => xs

inductive Cls where
  | p
  | r
  | m
deriving DecidableEq
/-- p: hangs on no object and turns none; r: looks at objects, or makes one; m: may turn one. -/
def AI.cls : AI → Cls
  | .mov _ | .pick .. | .fadr .. | .fld .. | .iadrA .. | .idxA .. | .idxStr .. | .slcStr .. | .bin .. | .binB .. | .aeq .. | .una .. | .cvtI .. | .build .. | .mfn .. | .ext .. | .nilck _ | .lenA _ | .lenStr _ | .mnx .. => .p
  | .box .. | .zbox .. | .ldA .. | .ld1 _ | .iadrS .. | .slcS .. | .cvtBS _ | .cvtSB .. | .mslice .. | .bslice .. | .len _ => .r
  | .call m _ _ => if m then .m else .r
  | .st .. | .app .. | .appS .. | .appz .. => .m

structure AOp where
  dst : Option Nat
  ins : AI
  guard : Option (Nat × Bool)

/-- Steps of bookkeeping, laid into the code by hand: nothing of the program. -/
inductive Gh where
  | adopt (e sz t : Nat)
  | adoptC (e sz k j : Nat)
  | freeze (t : Nat)
  | freezeC (k j : Nat)
  | drop (n : Nat)

inductive AC where
  | skip
  | reg (ops : List AOp)
  | regD (masks : List Nat) (ops : List AOp)
  | seq (a b : AC)
  | cond (c : Opd) (a b : AC)
  | block (id : Nat) (a : AC)
  | loop (a : AC)
  | exit (id : Nat)
  | ret
  | gh (g : Gh) (a : AC)

inductive ARes where
  | tmp (t : Nat)
  | cellA (a n : Nat)
  | cell1 (a : Nat)

structure AFn where
  nt : Nat
  res : List ARes
  own : Bool
  code : AC

/-! ### the interpreter -/
abbrev AEnv := Nat → AV
def upd (e : AEnv) (d : Option Nat) (v : AV) : AEnv := match d with
  | none => e
  | some t => fun n => if n = t then v else e n
def Opd.ev (e : AEnv) : Opd → AV
  | .tmp t => e t
  | .con v => v

def isCell : AV → Bool
  | .agg _ | .tup _ | .un => false
  | _ => true
/-- A value's cells. -/
def cellsOf : AV → Option (List AV)
  | .agg cs => if cs.all isCell then some cs else none
  | v => if isCell v then some [v] else none

def cellsAt (h : Hp) (k ver i : Nat) : Option (List AV) :=
  match h.objs[k]? with
  | some (.box _ v cs) => if v = ver then (if i = 0 then some cs else none) else none
  | some (.row _ _ v es) => if v = ver then (es[i]?).map (·.map .iv) else none
  | _ => none
def rowAt (h : Hp) (k ver : Nat) : Option (Nat × Nat × List (List IV)) :=
  match h.objs[k]? with
  | some (.row e sz v es) => if v = ver then some (e, sz, es) else none
  | _ => none
def splice {α : Type} (old : List α) (j : Nat) (cs : List α) : List α := old.take j ++ cs ++ old.drop (j + cs.length)

/-- Cells that are to lie in a row: trees. -/
def toIVs : List AV → Option (List IV)
  | [] => some []
  | .iv x :: r => (toIVs r).map (x :: ·)
  | .nils :: r => (toIVs r).map (.sl [] :: ·)
  | _ :: _ => none

def aint : AV → Option Int
  | .iv (.int _ n) => some n
  | _ => none

def abin (op : BinOp) : IV → IV → Option IV
  | .int k a, .int k' b =>
    match op with
    | .shl => if b < 0 then none else some (.int k (k.wrap (a * 2 ^ (min b.toNat k.bits))))
    | .shr => if b < 0 then none else some (.int k (a.fdiv (2 ^ (min b.toNat k.bits))))
    | .add => if k = k' then some (.int k (k.wrap (a + b))) else none
    | .sub => if k = k' then some (.int k (k.wrap (a - b))) else none
    | .mul => if k = k' then some (.int k (k.wrap (a * b))) else none
    | .quo => if k = k' then (if b = 0 then none else some (.int k (k.wrap (a.tdiv b)))) else none
    | .rem => if k = k' then (if b = 0 then none else some (.int k (a.tmod b))) else none
    | .and => if k = k' then some (.int k (k.wrap ((BitVec.ofInt k.bits a &&& BitVec.ofInt k.bits b).toNat : Nat))) else none
    | .or => if k = k' then some (.int k (k.wrap ((BitVec.ofInt k.bits a ||| BitVec.ofInt k.bits b).toNat : Nat))) else none
    | .xor => if k = k' then some (.int k (k.wrap ((BitVec.ofInt k.bits a ^^^ BitVec.ofInt k.bits b).toNat : Nat))) else none
    | .andNot => none
    | .eql => if k = k' then some (.bool (a == b)) else none
    | .neq => if k = k' then some (.bool (a != b)) else none
    | .lss => if k = k' then some (.bool (decide (a < b))) else none
    | .leq => if k = k' then some (.bool (decide (a ≤ b))) else none
    | .gtr => if k = k' then some (.bool (decide (a > b))) else none
    | .geq => if k = k' then some (.bool (decide (a ≥ b))) else none
  | .str a, .str b =>
    match op with
    | .add => if a.size + b.size ≤ 1099511627776 then some (.str (a ++ b)) else none
    | .eql => some (.bool (a.toList == b.toList))
    | .neq => some (.bool !(a.toList == b.toList))
    | .lss => some (.bool (Op.bytesLess a.toList b.toList))
    | .leq => some (.bool (Op.bytesLess a.toList b.toList || a.toList == b.toList))
    | .gtr => some (.bool !(Op.bytesLess a.toList b.toList || a.toList == b.toList))
    | .geq => some (.bool !(Op.bytesLess a.toList b.toList))
    | _ => none
  | _, _ => none

def sceq : AV → AV → Option Bool
  | .iv (.int k a), .iv (.int k' b) => if k = k' then some (a == b) else none
  | .iv (.bool a), .iv (.bool b) => some (a == b)
  | .iv (.str a), .iv (.str b) => some (a == b)
  | _, _ => none
def sceqs : List AV → List AV → Option Bool
  | [], [] => some true
  | a :: x, b :: y => (sceq a b).bind fun r => (sceqs x y).map fun q => r && q
  | _, _ => none

def bnd (e : AEnv) (d : Nat) : Option Opd → Option Nat
  | none => some d
  | some x => match aint (x.ev e) with
    | some n => if 0 ≤ n then some n.toNat else none
    | none => none

/-- The elements of what is read: a tree's, or a row's. -/
def elemsOf (h : Hp) : AV → Option (List (List IV))
  | .iv (.sl es) => some es
  | .nils => some []
  | .osl k ver => (rowAt h k ver).map fun r => r.2.2
  | .osub k ver off len => (rowAt h k ver).bind fun r => if off + len ≤ r.2.2.length then some ((r.2.2.drop off).take len) else none
  | _ => none
def bytesIV (s : ByteArray) : List (List IV) := s.data.toList.map fun c => [.int .u8 c.toNat]
/-- A string's bytes, out of cells. -/
def bytesOfIV : List (List IV) → Option (List UInt8)
  | [] => some []
  | [.int .u8 n] :: r => (bytesOfIV r).map (UInt8.ofNat n.toNat :: ·)
  | _ => none

def fillA (e : AEnv) : List (Nat × Nat × Opd) → List AV → Option (List AV)
  | [], cs => some cs
  | (off, n, x) :: r, cs =>
    match cellsOf (x.ev e) with
    | some d => if d.length = n then (if off + n ≤ cs.length then fillA e r (splice cs off d) else none) else none
    | none => none
def partsI (e : AEnv) (esz : Nat) : List (Nat × Opd) → Option (List (Nat × List IV))
  | [] => some []
  | (i, x) :: r =>
    match cellsOf (x.ev e) with
    | some d => (toIVs d).bind fun y => if y.length = esz then (partsI e esz r).map fun z => (i, y) :: z else none
    | none => none
def setParts : List (Nat × List IV) → List (List IV) → Option (List (List IV))
  | [], es => some es
  | (i, d) :: r, es => if i < es.length then setParts r (es.set i d) else none

def mnx1 (mx : Bool) : AV → AV → Option AV
  | .iv (.int k x), .iv (.int k' y) => if k = k' then some (.iv (.int k (if mx then (if y > x then y else x) else (if y < x then y else x)))) else none
  | _, _ => none
def mnxs (mx : Bool) (e : AEnv) : AV → List Opd → Option AV
  | a, [] => some a
  | a, x :: r => (mnx1 mx a (x.ev e)).bind fun b => mnxs mx e b r

/-- The call of a Go function: what is handed over, and what it gives. -/
abbrev Hdl := Nat → List AV → Hp → Option (AV × Hp)

/-- Arguments: trees; a row is lent as a tree; a box by its place among those that are handed over. 'ks': these so far; the Bool: was a row lent? -/
def argC (h : Hp) : AV → List Nat → Option (AV × List Nat × Bool)
  | .iv x, ks => some (.iv x, ks, false)
  | .nils, ks => some (.iv (.sl []), ks, false)
  | .osl k ver, ks => (elemsOf h (.osl k ver)).map fun es => (.iv (.sl es), ks, true)
  | .osub k ver off len, ks => (elemsOf h (.osub k ver off len)).map fun es => (.iv (.sl es), ks, true)
  | .ptr k ver 0 0, ks =>
    match h.objs[k]? with
    | some (.box _ v _) => if v = ver then (match ks.idxOf? k with
      | some i => some (.ptr i i 0 0, ks, false)
      | none => some (.ptr ks.length ks.length 0 0, ks ++ [k], false)) else none
    | _ => none
  | _, _ => none
def argCs (h : Hp) : List AV → List Nat → Option (List AV × List Nat × Bool)
  | [], ks => some ([], ks, false)
  | a :: r, ks => (argC h a ks).bind fun x => (argCs h r x.2.1).map fun y => (x.1 :: y.1, y.2.1, x.2.2 || y.2.2)
def argT (h : Hp) : AV → List Nat → Option (AV × List Nat × Bool)
  | .agg cs, ks => (argCs h cs ks).map fun y => (.agg y.1, y.2)
  | .fn f cs, ks => (argCs h cs ks).map fun y => (.fn f y.1, y.2)
  | v, ks => argC h v ks
def argTs (h : Hp) : List AV → List Nat → Option (List AV × List Nat × Bool)
  | [], ks => some ([], ks, false)
  | a :: r, ks => (argT h a ks).bind fun x => (argTs h r x.2.1).map fun y => (x.1 :: y.1, y.2.1, x.2.2 || y.2.2)

def isIv : AV → Bool
  | .iv _ => true
  | .nils => true
  | _ => false
/-- The boxes that are handed over: their cells are trees. -/
def given (h : Hp) : List Nat → Nat → Option (List Obj)
  | [], _ => some []
  | k :: r, n => match h.objs[k]? with
    | some (.box e _ cs) => if cs.all isIv then (given h r (n + 1)).map (.box e n cs :: ·) else none
    | _ => none
/-- .. and back: they lie where they lay. -/
def takeBack : List Nat → Nat → List Obj → List Obj → Option (List Obj)
  | [], _, _, L => some L
  | k :: r, n, .box e0 v cs :: R, L => match L[k]? with
    | some (.box e v' _) => if v = n ∧ e0 = e ∧ cs.all isIv = true then takeBack r (n + 1) R (L.set k (.box e v' cs)) else none
    | _ => none
  | _ :: _, _, _, _ => none

/-- A result's part: a tree; a row is a tree from now on, or (own) is handed over. 'out': the rows handed over; n: how many objects the caller has. -/
def finC (own : Bool) (n : Nat) (h : Hp) : AV → List Nat → Option (AV × List Nat)
  | .iv x, out => some (.iv x, out)
  | .nils, out => some (.iv (.sl []), out)
  | .osl k ver, out =>
    match h.objs[k]? with
    | some (.row _ _ v es) => if v = ver then (if own then (if out.contains k then none else some (.osl (n + out.length) (n + out.length), out ++ [k])) else some (.iv (.sl es), out)) else none
    | _ => none
  | .osub k ver off len, out => if own then none else (elemsOf h (.osub k ver off len)).map fun es => (.iv (.sl es), out)
  | _, _ => none
def finCs (own : Bool) (n : Nat) (h : Hp) : List AV → List Nat → Option (List AV × List Nat)
  | [], out => some ([], out)
  | a :: r, out => (finC own n h a out).bind fun x => (finCs own n h r x.2).map fun y => (x.1 :: y.1, y.2)
def finT (own : Bool) (n : Nat) (h : Hp) : AV → List Nat → Option (AV × List Nat)
  | .agg cs, out => (finCs own n h cs out).map fun y => (.agg y.1, y.2)
  | v, out => finC own n h v out
def finTs (own : Bool) (n : Nat) (h : Hp) : List AV → List Nat → Option (List AV × List Nat)
  | [], out => some ([], out)
  | a :: r, out => (finT own n h a out).bind fun x => (finTs own n h r x.2).map fun y => (x.1 :: y.1, y.2)
def fin (own : Bool) (n : Nat) (h : Hp) : AV → Option (AV × List Nat)
  | .tup vs => (finTs own n h vs []).map fun y => (.tup y.1, y.2)
  | v => finT own n h v []
/-- The rows that are handed over, by their new numbers. -/
def rowsOut (h : Hp) : Nat → List Nat → List Obj
  | _, [] => []
  | n, k :: r => (match h.objs[k]? with
    | some (.row e sz _ es) => .row e sz n es
    | _ => .gone) :: rowsOut h (n + 1) r
/-- Boxes, each with its place for a stamp, and trees alone in them. -/
def bxOk : Nat → List Obj → Bool
  | _, [] => true
  | n, .box _ v cs :: r => v == n && cs.all isIv && bxOk (n + 1) r
  | _, _ => false

def scal : AV → Bool
  | .iv (.sl _) => false
  | .iv _ => true
  | _ => false
def scalT : AV → Bool
  | .agg cs => cs.all scal
  | v => scal v
def scalR : AV → Bool
  | .tup vs => vs.all scalT
  | v => scalT v

def renC (m nv nk n1 : Nat) : AV → AV
  | .iv x => .iv x
  | .osl k v => if nk ≤ k ∧ nk ≤ v ∧ k < n1 then .osl (m + (k - nk)) (nv + (v - nk)) else .un
  | _ => .un
def renT (m nv nk n1 : Nat) : AV → AV
  | .agg cs => .agg (cs.map (renC m nv nk n1))
  | x => renC m nv nk n1 x
def ren (m nv nk n1 : Nat) : AV → AV
  | .tup vs => .tup (vs.map (renT m nv nk n1))
  | x => renT m nv nk n1 x
def renO (nv nk : Nat) : Obj → Obj
  | .row e sz v es => .row e sz (nv + (v - nk)) es
  | o => o

/-- What is called from outside: contracts that are proved by themselves. -/
abbrev Xr := Nat → List AV → Hp → Option (AV × Hp)

def scalO : Obj → Bool
  | .box _ _ cs => cs.all scal
  | _ => false
/-- A call by the callee's own code: what is handed over is put together; what comes back is laid behind. -/
def viaHd (hd : Hdl) (g : Nat) (all : List AV) (h : Hp) : Option (AV × Hp) :=
  (argTs h all []).bind fun x =>
  (given h x.2.1 0).bind fun objs0 =>
  (hd g x.1 ⟨objs0, x.2.1.length⟩).bind fun r =>
  if x.2.2 && !(scalR r.1 && r.2.objs.all scalO) then none else
  (takeBack x.2.1 0 r.2.objs h.objs).map fun L =>
  (ren L.length h.nv x.2.1.length r.2.objs.length r.1, ⟨L ++ (r.2.objs.drop x.2.1.length).map (renO h.nv x.2.1.length), h.nv + (r.2.objs.length - x.2.1.length)⟩)

def capOk : AV → Bool
  | .iv _ | .nils | .ptr .. => true
  | _ => false
/-- m: may it write what the caller owns? If not, no box is handed over. -/
def callV (xr : Xr) (hd : Hdl) (m : Bool) (f : AV) (vs : List AV) (h : Hp) : Option (AV × Hp) :=
  match f with
  | .fn g caps =>
    if caps.all capOk then
      if m then
        match xr g (vs ++ caps) h with
        | some r => some r
        | none => viaHd hd g (vs ++ caps) h
      else (argTs h (vs ++ caps) []).bind fun x => if x.2.1 = [] then viaHd hd g (vs ++ caps) h else none
    else none
  | _ => none

/-- append: a new row, or the row as it grows. -/
def appTo (t esz : Nat) (s : AV) (news : List (List IV)) (h : Hp) : Option (AV × Hp) :=
  match s with
  | .nils => if t < 4294967296 ∧ news.length ≤ 2147483648 then some (.osl h.objs.length h.nv, ⟨h.objs ++ [.row t esz h.nv news], h.nv + 1⟩) else none
  | .osl k v => (rowAt h k v).bind fun r => if r.1 = t ∧ r.2.1 = esz then (if t < 4294967296 ∧ r.2.2.length + news.length ≤ 2147483648 then some (.osl k h.nv, ⟨h.objs.set k (.row t esz h.nv (r.2.2 ++ news)), h.nv + 1⟩) else none) else none
  | _ => none

def astep (xr : Xr) (hd : Hdl) (i : AI) (e : AEnv) (h : Hp) : Option (AV × Hp) :=
  match i with
  | .mov a => some (a.ev e, h)
  | .pick c a b => match c.ev e with
    | .iv (.bool t) => some (if t then a.ev e else b.ev e, h)
    | _ => none
  | .box t a => match cellsOf (a.ev e) with
    | some cs => some (.ptr h.objs.length h.nv 0 0, ⟨h.objs ++ [.box t h.nv cs], h.nv + 1⟩)
    | none => none
  | .zbox t cs => some (.ptr h.objs.length h.nv 0 0, ⟨h.objs ++ [.box t h.nv cs], h.nv + 1⟩)
  | .ldA n p => match p.ev e with
    | .ptr k v i j => (cellsAt h k v i).bind fun cs => if j + n ≤ cs.length then some (.agg ((cs.drop j).take n), h) else none
    | .iptr cs => if n ≤ cs.length then some (.agg ((cs.take n).map .iv), h) else none
    | _ => none
  | .ld1 p => match p.ev e with
    | .ptr k v i j => (cellsAt h k v i).bind fun cs => (cs[j]?).map fun x => (x, h)
    | .iptr cs => (cs[0]?).map fun x => (.iv x, h)
    | _ => none
  | .st n p x => match p.ev e with
    | .ptr k v i j => (cellsOf (x.ev e)).bind fun cs =>
      if cs.length = n then
        match h.objs[k]? with
        | some (.box t v' old) => if v' = v then (if i = 0 then (if j + n ≤ old.length then some (.tup [], { h with objs := h.objs.set k (.box t v (splice old j cs)) }) else none) else none) else none
        | some (.row t sz v' es) => if v' = v then (toIVs cs).bind fun y => match es[i]? with
          | some old => if j + n ≤ old.length then some (.tup [], { h with objs := h.objs.set k (.row t sz v (es.set i (splice old j y))) }) else none
          | none => none else none
        | _ => none
      else none
    | _ => none
  | .fadr off p => match p.ev e with
    | .ptr k v i j => some (.ptr k v i (j + off), h)
    | .iptr cs => some (.iptr (cs.drop off), h)
    | _ => none
  | .fld a n off x => match x.ev e with
    | .agg cs => if a then (if off + n ≤ cs.length then some (.agg ((cs.drop off).take n), h) else none) else (cs[off]?).map fun y => (y, h)
    | _ => none
  | .iadrA len esz p ix => match aint (ix.ev e) with
    | some n => if 0 ≤ n ∧ n < len then (match p.ev e with
      | .ptr k v i j => some (.ptr k v i (j + n.toNat * esz), h)
      | .iptr cs => some (.iptr (cs.drop (n.toNat * esz)), h)
      | _ => none) else none
    | none => none
  | .iadrS esz x ix => match aint (ix.ev e) with
    | some n => if 0 ≤ n then (match x.ev e with
      | .iv (.sl es) => (es[n.toNat]?).bind fun el => if el.length = esz then some (.iptr el, h) else none
      | .osl k v => (rowAt h k v).bind fun r => if r.2.1 = esz then (if n.toNat < r.2.2.length then some (.ptr k v n.toNat 0, h) else none) else none
      | .osub k v off len => (rowAt h k v).bind fun r => if r.2.1 = esz then (if n.toNat < len ∧ off + len ≤ r.2.2.length then some (.ptr k v (off + n.toNat) 0, h) else none) else none
      | _ => none) else none
    | none => none
  | .idxA a len n x ix => match aint (ix.ev e) with
    | some i => if 0 ≤ i ∧ i < len then (match x.ev e with
      | .agg cs => if a then (if i.toNat * n + n ≤ cs.length then some (.agg ((cs.drop (i.toNat * n)).take n), h) else none) else (cs[i.toNat * n]?).map fun y => (y, h)
      | _ => none) else none
    | none => none
  | .idxStr x ix => match aint (ix.ev e) with
    | some i => if 0 ≤ i then (match x.ev e with
      | .iv (.str s) => (s.data[i.toNat]?).map fun c => (.iv (.int .u8 c.toNat), h)
      | _ => none) else none
    | none => none
  | .slcStr x lo hi => match x.ev e with
    | .iv (.str s) => (bnd e 0 lo).bind fun l => (bnd e s.size hi).bind fun r => if l ≤ r ∧ r ≤ s.size then some (.iv (.str (s.extract l r)), h) else none
    | _ => none
  | .slcS esz x lo hi => match x.ev e with
    | .iv (.sl es) => if es.all (·.length == esz) then (bnd e 0 lo).bind fun l => (bnd e es.length hi).bind fun r => if l ≤ r ∧ r ≤ es.length then some (.iv (.sl ((es.take r).drop l)), h) else none else none
    | .osl k v => (rowAt h k v).bind fun row => if row.2.1 = esz then (bnd e 0 lo).bind fun l => (bnd e row.2.2.length hi).bind fun r => if l ≤ r ∧ r ≤ row.2.2.length then some (.osub k v l (r - l), h) else none else none
    | .osub k v off len => (rowAt h k v).bind fun row => if row.2.1 = esz then (bnd e 0 lo).bind fun l => (bnd e len hi).bind fun r => if l ≤ r ∧ r ≤ len then some (.osub k v (off + l) (r - l), h) else none else none
    | _ => none
  | .bin op x y => match x.ev e, y.ev e with
    | .iv a, .iv b => (abin op a b).map fun r => (.iv r, h)
    | _, _ => none
  | .binB op x y => match op, x.ev e, y.ev e with
    | .eql, .iv (.bool p), .iv (.bool q) => some (.iv (.bool (p == q)), h)
    | .neq, .iv (.bool p), .iv (.bool q) => some (.iv (.bool !(p == q)), h)
    | _, _, _ => none
  | .aeq _ neg x y => match x.ev e, y.ev e with
    | .agg a, .agg b => (sceqs a b).map fun r => (.iv (.bool (if neg then !r else r)), h)
    | _, _ => none
  | .una op x => match op, x.ev e with
    | .not, .iv (.bool p) => some (.iv (.bool !p), h)
    | .neg, .iv (.int k n) => some (.iv (.int k (k.wrap (0 - n))), h)
    | _, _ => none
  | .cvtI k x => match x.ev e with
    | .iv (.int _ n) => some (.iv (.int k (k.wrap n)), h)
    | _ => none
  | .cvtBS x => (elemsOf h (x.ev e)).bind fun es => (bytesOfIV es).map fun l => (.iv (.str ⟨l.toArray⟩), h)
  | .cvtSB t x => match x.ev e with
    | .iv (.str s) => if t < 4294967296 ∧ s.size ≤ 2147483648 then some (.osl h.objs.length h.nv, ⟨h.objs ++ [.row (t + 4294967296) 1 h.nv (bytesIV s)], h.nv + 1⟩) else none
    | _ => none
  | .build zero parts => (fillA e parts zero).map fun cs => (.agg cs, h)
  | .bslice t esz zero len parts => if t < 4294967296 ∧ len * esz ≤ 16777216 then (partsI e esz parts).bind fun y => (setParts y (List.replicate len zero)).map fun es =>
      (.osl h.objs.length h.nv, ⟨h.objs ++ [.row t esz h.nv es], h.nv + 1⟩) else none
  | .mslice t esz zero len => match len.ev e with
    | .iv (.int .i64 n) => if t < 4294967296 ∧ 0 ≤ n ∧ n ≤ 1073741824 then some (.osl h.objs.length h.nv, ⟨h.objs ++ [.row t esz h.nv (List.replicate n.toNat zero)], h.nv + 1⟩) else none
    | _ => none
  | .mfn f caps => some (.fn f (caps.map (·.ev e)), h)
  | .ext x i => match x.ev e with
    | .tup vs => (vs[i]?).map fun y => (y, h)
    | _ => none
  | .nilck x => match x.ev e with
    | .ptr k v i j => some (.ptr k v i j, h)
    | .iptr cs => some (.iptr cs, h)
    | .fn f cs => some (.fn f cs, h)
    | _ => none
  | .call m f args => callV xr hd m (f.ev e) (args.map (·.ev e)) h
  | .app t esz s x => (elemsOf h (x.ev e)).bind fun news => if news.all (·.length == esz) then appTo t esz (s.ev e) news h else none
  | .appS t s x => match x.ev e with
    | .iv (.str q) => appTo t 1 (s.ev e) (bytesIV q) h
    | _ => none
  | .appz t esz zero s x => match x.ev e, s.ev e with
    | .iv (.int .i64 n), .osl k v => (rowAt h k v).bind fun r => if 0 ≤ n ∧ r.1 = t ∧ r.2.1 = esz then (if t < 4294967296 ∧ r.2.2.length + n.toNat ≤ 1073741824 then
        some (.osl k h.nv, ⟨h.objs.set k (.row t esz h.nv (r.2.2 ++ List.replicate n.toNat zero)), h.nv + 1⟩) else none) else none
    | _, _ => none
  | .len x => (elemsOf h (x.ev e)).map fun es => (.iv (.int .i64 es.length), h)
  | .lenStr x => match x.ev e with
    | .iv (.str s) => some (.iv (.int .i64 s.size), h)
    | _ => none
  | .lenA n => some (.iv (.int .i64 n), h)
  | .mnx mx xs => match xs with
    | x :: r => (mnxs mx e (x.ev e) r).map fun v => (v, h)
    | [] => none

def arun (xr : Xr) (hd : Hdl) : List AOp → AEnv → Hp → Option (AEnv × Hp)
  | [], e, h => some (e, h)
  | o :: r, e, h => match o.guard with
    | none => (astep xr hd o.ins e h).bind fun y => arun xr hd r (upd e o.dst y.1) y.2
    | some (t, want) => match e t with
      | .iv (.bool b) => if b = want then (astep xr hd o.ins e h).bind fun y => arun xr hd r (upd e o.dst y.1) y.2 else arun xr hd r (upd e o.dst (.tup [])) h
      | .tup [] => arun xr hd r (upd e o.dst (.tup [])) h
      | _ => none

/-! A region whose order is open: run in the text's order; what may turn an object lies apart from, or is ordered against, all that looks at it. -/
def refs1 : AV → List Nat
  | .osl k _ => [k]
  | .osub k _ _ _ => [k]
  | .ptr k _ _ _ => [k]
  | _ => []
def refs : AV → List Nat
  | .agg cs => cs.flatMap refs1
  | .fn _ cs => cs.flatMap refs1
  | v => refs1 v
def foot (i : AI) (e : AEnv) : List Nat := if i.cls = .p then [] else i.opds.flatMap fun x => refs (x.ev e)
/-- May it turn the heap of objects? -/
def AI.heap : AI → Bool
  | .box .. | .zbox .. | .cvtSB .. | .mslice .. | .bslice .. | .call .. | .st .. | .app .. | .appS .. | .appz .. => true
  | _ => false
def modOf (i : AI) (e : AEnv) : List Nat := if i.cls = .m then foot i e else []
/-- What it turns or makes. -/
def touch (i : AI) (e : AEnv) (h h' : Hp) : List Nat := if i.heap then modOf i e ++ List.range' h.objs.length (h'.objs.length - h.objs.length) else []
def lookOf (i : AI) (e : AEnv) : List Nat := if i.heap then [] else foot i e
def putNe (i : Nat) (l : List Nat) (r : List (Nat × List Nat)) : List (Nat × List Nat) := match l with
  | [] => r
  | _ :: _ => (i, l) :: r
/-- The run, and of each operation what it looks at, and what it turns. -/
def arunF (xr : Xr) (hd : Hdl) : Nat → List AOp → AEnv → Hp → Option (List (Nat × List Nat) × List (Nat × List Nat) × AEnv × Hp)
  | _, [], e, h => some ([], [], e, h)
  | n, o :: r, e, h => match o.guard with
    | none => (astep xr hd o.ins e h).bind fun y => (arunF xr hd (n + 1) r (upd e o.dst y.1) y.2).map fun z => (putNe n (lookOf o.ins e) z.1, putNe n (touch o.ins e h y.2) z.2.1, z.2.2)
    | some (t, want) => match e t with
      | .iv (.bool b) => if b = want then (astep xr hd o.ins e h).bind fun y => (arunF xr hd (n + 1) r (upd e o.dst y.1) y.2).map fun z => (putNe n (lookOf o.ins e) z.1, putNe n (touch o.ins e h y.2) z.2.1, z.2.2)
        else arunF xr hd (n + 1) r (upd e o.dst (.tup [])) h
      | .tup [] => arunF xr hd (n + 1) r (upd e o.dst (.tup [])) h
      | _ => none
def meet (a b : List Nat) : Bool := a.any fun x => b.contains x
def bit (m i : Nat) : Bool := m / 2 ^ i % 2 == 1
/-- Are i and j told an order? -/
def told (masks : List Nat) (i j : Nat) : Bool := if i < j then bit (masks.getD j 0) i else bit (masks.getD i 0) j
def apartOk (masks : List Nat) (ls ts : List (Nat × List Nat)) : Bool := ls.all fun x => ts.all fun y => told masks x.1 y.1 || !meet x.2 y.2
def arunD (xr : Xr) (hd : Hdl) (masks : List Nat) (ops : List AOp) (e : AEnv) (h : Hp) : Option (AEnv × Hp) :=
  (arunF xr hd 0 ops e h).bind fun z => if apartOk masks z.1 z.2.1 then some z.2.2 else none

/-- The bookkeeping. -/
def aghost (g : Gh) (e : AEnv) (h : Hp) : Option (AEnv × Hp) :=
  match g with
  | .adopt t sz n => match e n with
    | .nils => if sz = 0 then none else some (upd e (some n) (.osl h.objs.length h.nv), ⟨h.objs ++ [.row t sz h.nv []], h.nv + 1⟩)
    | _ => none
  | .adoptC t sz k j => match h.objs[k]? with
    | some (.box bt v cs) => match cs[j]? with
      | some .nils => if sz = 0 then none else some (e, ⟨(h.objs.set k (.box bt v (cs.set j (.osl h.objs.length h.nv)))) ++ [.row t sz h.nv []], h.nv + 1⟩)
      | _ => none
    | _ => none
  | .freeze n => match e n with
    | .osl k v => (rowAt h k v).map fun r => (upd e (some n) (.iv (.sl r.2.2)), { h with objs := h.objs.set k .gone })
    | _ => none
  | .freezeC k j => match h.objs[k]? with
    | some (.box bt v cs) => match cs[j]? with
      | some (.osl k' v') => (rowAt h k' v').map fun r => (e, { h with objs := (h.objs.set k (.box bt v (cs.set j (.iv (.sl r.2.2))))).set k' .gone })
      | _ => none
    | _ => none
  | .drop n => some (e, { h with objs := h.objs.take n })

inductive Out where
  | nrm
  | exit (id : Nat)
  | ret

def ares (e : AEnv) (h : Hp) : ARes → Option AV
  | .tmp t => some (e t)
  | .cellA a n => match e a with
    | .ptr k v i j => (cellsAt h k v i).bind fun cs => if j + n ≤ cs.length then some (.agg ((cs.drop j).take n)) else none
    | _ => none
  | .cell1 a => match e a with
    | .ptr k v i j => (cellsAt h k v i).bind fun cs => cs[j]?
    | _ => none
def aress (e : AEnv) (h : Hp) : List ARes → Option (List AV)
  | [] => some []
  | r :: rs => (ares e h r).bind fun v => (aress e h rs).map (v :: ·)
def aresult (e : AEnv) (h : Hp) (rs : List ARes) : Option AV :=
  (aress e h rs).map fun vs => match vs with
    | [v] => v
    | vs => .tup vs
/-- What a callee gives: its boxes as they are now, the rows that it hands over. -/
def finish (own : Bool) (nk : Nat) (v : AV) (h : Hp) : Option (AV × Hp) :=
  (fin own nk h v).bind fun y => if nk ≤ h.objs.length ∧ bxOk 0 (h.objs.take nk) = true then some (y.1, ⟨h.objs.take nk ++ rowsOut h nk y.2, nk + y.2.length⟩) else none
def startEnv (args : List AV) : AEnv := fun n => args.getD n (.tup [])

/-- What a function's run comes to, for its caller. -/
def finR (fn : AFn) (nk : Nat) : Option (Out × AEnv × Hp) → Option (AV × Hp)
  | some (.nrm, e', h') => (aresult e' h' fn.res).bind fun v => finish fn.own nk v h'
  | some (.ret, e', h') => (aresult e' h' fn.res).bind fun v => finish fn.own nk v h'
  | _ => none
/-- A call: a contract from outside, or the function's own code. -/
def mkHd (F : Nat → Option AFn) (xp : Hdl) (run : AFn → List AV → Hp → Option (Out × AEnv × Hp)) : Hdl := fun f args h0 =>
  match xp f args h0 with
  | some r => some r
  | none => (F f).bind fun fn => finR fn h0.objs.length (run fn args h0)
/-- The interpreter, by a bound on its depth. -/
def aexec (F : Nat → Option AFn) (xr : Xr) (xp : Hdl) : Nat → AC → AEnv → Hp → Option (Out × AEnv × Hp)
  | 0, _, _, _ => none
  | n + 1, c, e, h =>
    match c with
    | .skip => some (.nrm, e, h)
    | .reg ops => (arun xr (mkHd F xp (fun fn args h0 => aexec F xr xp n fn.code (startEnv args) h0)) ops e h).map fun y => (.nrm, y.1, y.2)
    | .regD masks ops => (arunD xr (mkHd F xp (fun fn args h0 => aexec F xr xp n fn.code (startEnv args) h0)) masks ops e h).map fun y => (.nrm, y.1, y.2)
    | .seq a b => match aexec F xr xp n a e h with
      | some (.nrm, e', h') => aexec F xr xp n b e' h'
      | r => r
    | .cond c a b => match c.ev e with
      | .iv (.bool t) => aexec F xr xp n (if t then a else b) e h
      | _ => none
    | .block id a => match aexec F xr xp n a e h with
      | some (.exit i, e', h') => some (if i = id then .nrm else .exit i, e', h')
      | r => r
    | .loop a => match aexec F xr xp n a e h with
      | some (.nrm, e', h') => aexec F xr xp n (.loop a) e' h'
      | r => r
    | .exit id => some (.exit id, e, h)
    | .ret => some (.ret, e, h)
    | .gh g a => (aghost g e h).bind fun y => aexec F xr xp n a y.1 y.2

def acall (F : Nat → Option AFn) (xr : Xr) (xp : Hdl) (n : Nat) : Hdl := mkHd F xp (fun fn args h0 => aexec F xr xp n fn.code (startEnv args) h0)

end Go.Om
