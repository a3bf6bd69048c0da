/- The same operation, its arms told apart: the kernel instantiates less at each step. -/
import Derived.Test.YtkaaolegkffckaaGreatDoorPlStep
set_option linter.unusedVariables false
namespace Go.Pl
def fo1 (X : Env) (tm : List AV) (L : Nat → Blk) (nx : Nat) (c : Operand) (a : Operand) (b : Operand) : Option (AV × Us) := match aEval X tm c with
    | .p (.v (.bool r)) => some (if r then aEval X tm a else aEval X tm b, [])
    | _ => none
def fo2 (X : Env) (tm : List AV) (L : Nat → Blk) (nx : Nat) (e : TypeId) : Option (AV × Us) := match X.T e with
    | some ti => some (.bp nx 0, [(nx, .box (zeroCs ti))])
    | none => none
def fo3 (X : Env) (tm : List AV) (L : Nat → Blk) (nx : Nat) (e : TypeId) (x : Operand) : Option (AV × Us) := match cellsOf (aEval X tm x) with
    | some cs => some (.bp nx 0, [(nx, .box cs)])
    | none => none
def fo4 (X : Env) (tm : List AV) (L : Nat → Blk) (nx : Nat) (t : TypeId) (parts : Array (Nat × Operand)) : Option (AV × Us) := match aBuild X.T t (parts.toList.map fun p => (p.1, aEval X tm p.2)) with
    | some y => some (y, [])
    | none => none
def fo5 (X : Env) (tm : List AV) (L : Nat → Blk) (nx : Nat) (t : TypeId) (len : Nat) (parts : Array (Nat × Operand)) : Option (AV × Us) := match aBuildSl X.nest X.T L t len (parts.toList.map fun p => (p.1, aEval X tm p.2)) with
    | some (fr, sz, els) => if fr.all (fun p => !(p.1 == nx)) = true then some (.own nx 0 0 els.length, fr ++ [(nx, .arr false 0 sz els)]) else none
    | none => none
def fo6 (X : Env) (tm : List AV) (L : Nat → Blk) (nx : Nat) (t : TypeId) (a : Operand) : Option (AV × Us) := match X.T t with
    | some ti => (match readCells L ti.size (aEval X tm a) with
      | some cs => some (aMk ti cs, [])
      | none => none)
    | none => none
def fo7 (X : Env) (tm : List AV) (L : Nat → Blk) (nx : Nat) (t : TypeId) (a : Operand) (x : Operand) : Option (AV × Us) := match X.T t, cellsOf (aEval X tm x) with
    | some ti, some cs => if cs.length = ti.size then (match aStore X.nest L (aEval X tm a) cs with
      | some us => some (undefA, us)
      | none => none) else none
    | _, _ => none
def fo8 (X : Env) (tm : List AV) (L : Nat → Blk) (nx : Nat) (x : Operand) : Option (AV × Us) := if ptrOk L (aEval X tm x) = true then some (aEval X tm x, []) else none
def fo9 (X : Env) (tm : List AV) (L : Nat → Blk) (nx : Nat) (op : BinOp) (t : TypeId) (x : Operand) (y : Operand) : Option (AV × Us) := match aNilOwn X.T L op t y (aEval X tm x) with
    | some v => some (.p (.v v), [])
    | none => (match aBin X.T X.E op t y (aEval X tm x) (aEval X tm y) with
      | some v => some (.p (.v v), [])
      | none => none)
def fo10 (X : Env) (tm : List AV) (L : Nat → Blk) (nx : Nat) (op : UnOp) (x : Operand) : Option (AV × Us) := match aUn op (aEval X tm x) with
    | some y => some (y, [])
    | none => none
def fo11 (X : Env) (tm : List AV) (L : Nat → Blk) (nx : Nat) (s : TypeId) (d : TypeId) (x : Operand) : Option (AV × Us) := match aConvInt X.T s d (aEval X tm x) with
    | some y => some (y, [])
    | none => (match aToBytes X.T s d (aEval X tm x) with
      | some els => some (.own nx 0 0 els.length, [(nx, .arr false 0 1 els)])
      | none => (match aToStr X.T L s d (aEval X tm x) with
        | some y => some (y, [])
        | none => none))
def fo12 (X : Env) (tm : List AV) (L : Nat → Blk) (nx : Nat) (t : TypeId) (x : Operand) : Option (AV × Us) := match aMkIf X.T t (aEval X tm x) with
    | some y => some (y, [])
    | none => none
def fo13 (X : Env) (tm : List AV) (L : Nat → Blk) (nx : Nat) (fn : Fn) (first : Array Operand) (caps : Array Operand) : Option (AV × Us) := match fn, first.toList with
    | .func f, [] => some (.clo f (caps.toList.map (aEval X tm)), [])
    | _, _ => none
def fo14 (X : Env) (tm : List AV) (L : Nat → Blk) (nx : Nat) (t : TypeId) (l : Operand) (c : Operand) : Option (AV × Us) := match aMkSl X.T t (aEval X tm l) (aEval X tm c) with
    | some (sz, els) => some (.own nx 0 0 els.length, [(nx, .arr false 0 sz els)])
    | none => none
def fo15 (X : Env) (tm : List AV) (L : Nat → Blk) (nx : Nat) (t : TypeId) (x : Operand) (lo : Option Operand) (hi : Option Operand) : Option (AV × Us) := match aSlice X.T L t (aEval X tm x) (lo.map (aEval X tm)) (hi.map (aEval X tm)) with
    | some y => some (y, [])
    | none => none
def fo16 (X : Env) (tm : List AV) (L : Nat → Blk) (nx : Nat) (t : TypeId) (x : Operand) (lo : Option Operand) (hi : Option Operand) (mx : Operand) : Option (AV × Us) := match aSlice3 X.T L t (aEval X tm x) (lo.map (aEval X tm)) (hi.map (aEval X tm)) (aEval X tm mx) with
    | some n => some (.own nx 0 0 n, [(nx, .dead)])
    | none => none
def fo17 (X : Env) (tm : List AV) (L : Nat → Blk) (nx : Nat) (s : TypeId) (x : Operand) (f : Nat) : Option (AV × Us) := match aField X.T L s f (aEval X tm x) with
    | some y => some (y, [])
    | none => none
def fo18 (X : Env) (tm : List AV) (L : Nat → Blk) (nx : Nat) (t : TypeId) (x : Operand) (i : Operand) : Option (AV × Us) := match aIndexAddr X.T L t (aEval X tm x) (aEval X tm i) with
    | some y => some (y, [])
    | none => none
def fo19 (X : Env) (tm : List AV) (L : Nat → Blk) (nx : Nat) (t : TypeId) (x : Operand) (i : Operand) : Option (AV × Us) := match aIndexStr X.T t (aEval X tm x) (aEval X tm i) with
    | some y => some (y, [])
    | none => none
def fo20 (X : Env) (tm : List AV) (L : Nat → Blk) (nx : Nat) (x : Operand) (i : Nat) : Option (AV × Us) := match aExtract (aEval X tm x) i with
    | some y => some (y, [])
    | none => none
def fo21 (X : Env) (tm : List AV) (L : Nat → Blk) (nx : Nat) (x : Operand) (t : TypeId) : Option (AV × Us) := match aAssert X.T (aEval X tm x) t with
    | some y => some (y, [])
    | none => none
def fo22 (X : Env) (tm : List AV) (L : Nat → Blk) (nx : Nat) (c : Call) : Option (AV × Us) := match c.callee with
    | .builtin b => aBuiltin X tm L nx b c.args.toList c.argTypes.toList
    | _ => none

def fo23 (X : Env) (tm : List AV) (L : Nat → Blk) (nx : Nat) (t : TypeId) (x : Operand) : Option (AV × Us) := match aRange X.T t (aEval X tm x) with
    | some s => some (.bp nx 0, [(nx, .it s 0)])
    | none => none
def fo24 (X : Env) (tm : List AV) (L : Nat → Blk) (x : Operand) : Option (AV × Us) := aNext L (aEval X tm x)

def aop2 (X : Env) (tm : List AV) (L : Nat → Blk) (nx : Nat) : Op → Option (AV × Us)
  | .move x | .assign x => some (aEval X tm x, [])
  | .pick c a b => fo1 X tm L nx c a b
  | .alloc e => fo2 X tm L nx e
  | .box e x => fo3 X tm L nx e x
  | .build t parts => fo4 X tm L nx t parts
  | .buildSlice t len parts => fo5 X tm L nx t len parts
  | .load t a => fo6 X tm L nx t a
  | .store t a x => fo7 X tm L nx t a x
  | .nilCheck x => fo8 X tm L nx x
  | .binOp op t x y _ => fo9 X tm L nx op t x y
  | .unOp op _ x => fo10 X tm L nx op x
  | .convert s d x => fo11 X tm L nx s d x
  | .makeInterface t x => fo12 X tm L nx t x
  | .makeFunc fn first caps => fo13 X tm L nx fn first caps
  | .makeSlice t l c => fo14 X tm L nx t l c
  | .slice t x lo hi none => fo15 X tm L nx t x lo hi
  | .slice t x lo hi (some mx) => fo16 X tm L nx t x lo hi mx
  | .fieldAddr s x f => fo17 X tm L nx s x f
  | .indexAddr t x i => fo18 X tm L nx t x i
  | .index t x i => fo19 X tm L nx t x i
  | .extract x i => fo20 X tm L nx x i
  | .typeAssert x _ t true => fo21 X tm L nx x t
  | .call c => fo22 X tm L nx c
  | .range t x => fo23 X tm L nx t x
  | .next x true => fo24 X tm L x
  | _ => none

theorem aop2_eq (X : Env) (tm : List AV) (L : Nat → Blk) (nx : Nat) (op : Op) : aop2 X tm L nx op = aop X tm L nx op := by
  cases op with
  | slice t x lo hi mx => cases mx <;> rfl
  | typeAssert x y t ok => cases ok <;> rfl
  | next x ok => cases ok <;> rfl
  | _ => rfl
end Go.Pl
