/- One operation of the plain machine, and that the model does the same. -/
import Derived.Test.YtkaaolegkffckaaGreatDoorPlMake
import Derived.Test.YtkaaolegkffckaaGreatDoorPlMore
import Derived.Laws.BytesArg
set_option linter.unusedVariables false
set_option linter.unusedSimpArgs false
namespace Go.Pl

def byteOf : List AV → Option Int
  | [.p (.v (.int .u8 n))] => some n
  | _ => none

def toNums : List (List AV) → Option (List Int)
  | [] => some []
  | e :: els => match byteOf e, toNums els with
    | some n, some xs => some (n :: xs)
    | _, _ => none

theorem byteOf_ok {e : List AV} {n : Int} (h : byteOf e = some n) : e = [AV.p (.v (.int .u8 n))] := by
  unfold byteOf at h
  split at h
  · simp at h; subst h; rfl
  · simp at h

def aToStr (T : Tab) (L : Nat → Blk) (s d : TypeId) (x : AV) : Option AV :=
  match T s, T d, readEls L x with
  | some ⟨.slc e, _, _, _⟩, some ⟨.str, _, _, _⟩, some els => (match T e, toNums els with
    | some ⟨.int .u8, 1, _, _⟩, some xs => some (.p (.v (.string (strOfNums xs))))
    | _, _ => none)
  | _, _, _ => none

theorem toNums_ok : ∀ {els : List (List AV)} {xs : List Int}, toNums els = some xs → uni 1 els = true ∧ els.length = xs.length ∧ ∀ (i : Nat) (n : Int), xs[i]? = some n → els[i]? = some [AV.p (.v (.int .u8 n))]
  | [], xs, h => by simp [toNums] at h; subst h; simp [uni]
  | e :: els, xs, h => by
    simp only [toNums] at h
    split at h
    · rename_i n ys hn hy
      simp at h; subst h
      obtain rfl := byteOf_ok hn
      obtain ⟨h1, h2, h3⟩ := toNums_ok hy
      refine ⟨by simpa [uni] using h1, by simp [h2], fun i m hm => ?_⟩
      cases i with
      | zero => simp at hm; subst hm; rfl
      | succ i => simpa using h3 i m (by simpa using hm)
    · simp at h

theorem aToStr_ok {P : Program} {T : Tab} (hT : TabOk P T) {w : World} {g : Gh} {L : Nat → Blk} (r : Rel w g L) {s d : TypeId} {x y : AV} {u : Value} (h : aToStr T L s d x = some y) (hv : VA w g L x u) :
    ∃ v, (convert s d u).run P w = .ok v w ∧ VA w g L y v := by
  unfold aToStr at h
  split at h
  · rename_i e _ _ _ _ _ _ els hs hd hr
    have h1 := (hT s _ hs).slc (e := e) rfl
    have h2 := (hT d _ hd).str rfl
    split at h
    · rename_i _ _ xs hte hn
      have h3 := (hT e _ hte).int (k := .u8) rfl
      simp only [Option.some.injEq] at h; subst h
      obtain ⟨hu, hl, hx⟩ := toNums_ok hn
      obtain ⟨a, cap, news, rfl, _, hrow, hc⟩ := readEls_ok r hr hu hv
      refine ⟨.string (strOfNums xs), ?_, by simp only [VA, VP]⟩
      have hval : ∀ (i : Nat) n, xs[i]? = some n → news[i]? = some (.int .u8 n) := by
        intro i n hi
        obtain ⟨u, hu1, hu2⟩ := hrow.val i _ (hx i n hi) 0 (.p (.v (.int .u8 n))) rfl
        simp only [VA, VP] at hu2
        subst hu2
        simpa using hu1
      rcases hc with rfl | ⟨k, o, rfl, hc⟩
      · have : xs = [] := by
          have := hrow.len
          apply List.eq_nil_of_length_eq_zero
          simp at this
          omega
        subst this
        have hl0 : els.length = 0 := by simpa using hl
        cases a with
        | none =>
          rw [run_convert_bytes_nil w s e h1 h3 _ _ d h2]
          rfl
        | some a =>
          rw [run_convert_bytes_string w s d e _ _ _ h1 h3 h2, run_bytesToString w a _ cap [] (by rw [hl0]; simp [loadCells, loadCellsFrom])]
          rfl
      · exact run_convert_bytes_arg w s e h1 h3 k o els.length cap xs hl.symm (fun i hi => by
          have hix : i < xs.length := by omega
          rw [hc i _ (hval i xs[i] (by simp [hix]))]
          simp [List.getD, hix]) d h2
    · simp at h
  · simp at h

def aMinMax (mx : Bool) (a b : AV) : Option AV :=
  match a, b with
  | .p (.v (.int k x)), .p (.v (.int _ y)) => some (.p (.v (.int k (if mx then (if y > x then y else x) else (if y < x then y else x)))))
  | _, _ => none

def aClear (T : Tab) (L : Nat → Blk) (t : TypeId) (x : AV) : Option (Nat × Blk) :=
  match T t with
  | some ⟨.slc e, _, _, _⟩ => (match T e, x with
    | some ti, .own b ver off len => (match L b with
      | .arr false v es els => if ver = v ∧ es = ti.size ∧ off + len ≤ els.length ∧ allOne ti.zero.cells.toList = true then some (b, .arr false v es (wr els off (List.replicate len (zeroCs ti)))) else none
      | _ => none)
    | _, _ => none)
  | _ => none

/-- The built-in functions. -/
def aBuiltin (X : Env) (tm : List AV) (L : Nat → Blk) (nx : Nat) (b : Builtin) (args : List Operand) (ts : List TypeId) : Option (AV × Us) :=
  match b, args, ts with
  | .len, [x], [t] => (match aLen X.T L t (aEval X tm x) with
    | some n => some (.p (.v (.int .i64 n)), [])
    | none => none)
  | .append, [x, y], [t, t'] => (match aAppend X.T L nx t t' (aEval X tm x) (aEval X tm y) with
      | some (z, b, blk) => some (z, [(b, blk)])
      | none => none)
  | .min, [x, y], _ => (match aMinMax false (aEval X tm x) (aEval X tm y) with
    | some y => some (y, [])
    | none => none)
  | .max, [x, y], _ => (match aMinMax true (aEval X tm x) (aEval X tm y) with
    | some y => some (y, [])
    | none => none)
  | .clear, [x], [t] => (match aClear X.T L t (aEval X tm x) with
    | some (b, blk) => some (.tup [], [(b, blk)])
    | none => none)
  | _, _, _ => none

/-- One operation (no call of a function): its value, which blocks turn. -/
def aop (X : Env) (tm : List AV) (L : Nat → Blk) (nx : Nat) : Op → Option (AV × Us)
  | .move x | .assign x => some (aEval X tm x, [])
  | .pick c a b => match aEval X tm c with
    | .p (.v (.bool r)) => some (if r then aEval X tm a else aEval X tm b, [])
    | _ => none
  | .alloc e => match X.T e with
    | some ti => some (.bp nx 0, [(nx, .box (zeroCs ti))])
    | none => none
  | .box e x => match cellsOf (aEval X tm x) with
    | some cs => some (.bp nx 0, [(nx, .box cs)])
    | none => none
  | .build t parts => match aBuild X.T t (parts.toList.map fun p => (p.1, aEval X tm p.2)) with
    | some y => some (y, [])
    | none => none
  | .buildSlice t len parts => match aBuildSl X.nest X.T L t len (parts.toList.map fun p => (p.1, aEval X tm p.2)) with
    | some (fr, sz, els) => if fr.all (fun p => !(p.1 == nx)) = true then some (.own nx 0 0 els.length, fr ++ [(nx, .arr false 0 sz els)]) else none
    | none => none
  | .load t a => match X.T t with
    | some ti => (match readCells L ti.size (aEval X tm a) with
      | some cs => some (aMk ti cs, [])
      | none => none)
    | none => none
  | .store t a x => match X.T t, cellsOf (aEval X tm x) with
    | some ti, some cs => if cs.length = ti.size then (match aStore X.nest L (aEval X tm a) cs with
      | some us => some (undefA, us)
      | none => none) else none
    | _, _ => none
  | .nilCheck x => if ptrOk L (aEval X tm x) = true then some (aEval X tm x, []) else none
  | .binOp op t x y _ => match aNilOwn X.T L op t y (aEval X tm x) with
    | some v => some (.p (.v v), [])
    | none => (match aBin X.T X.E op t y (aEval X tm x) (aEval X tm y) with
      | some v => some (.p (.v v), [])
      | none => none)
  | .unOp op _ x => match aUn op (aEval X tm x) with
    | some y => some (y, [])
    | none => none
  | .convert s d x => match aConvInt X.T s d (aEval X tm x) with
    | some y => some (y, [])
    | none => (match aToBytes X.T s d (aEval X tm x) with
      | some els => some (.own nx 0 0 els.length, [(nx, .arr false 0 1 els)])
      | none => (match aToStr X.T L s d (aEval X tm x) with
        | some y => some (y, [])
        | none => none))
  | .makeInterface t x => match aMkIf X.T t (aEval X tm x) with
    | some y => some (y, [])
    | none => none
  | .makeFunc fn first caps => match fn, first.toList with
    | .func f, [] => some (.clo f (caps.toList.map (aEval X tm)), [])
    | _, _ => none
  | .makeSlice t l c => match aMkSl X.T t (aEval X tm l) (aEval X tm c) with
    | some (sz, els) => some (.own nx 0 0 els.length, [(nx, .arr false 0 sz els)])
    | none => none
  | .slice t x lo hi none => match aSlice X.T L t (aEval X tm x) (lo.map (aEval X tm)) (hi.map (aEval X tm)) with
    | some y => some (y, [])
    | none => none
  | .slice t x lo hi (some mx) => match aSlice3 X.T L t (aEval X tm x) (lo.map (aEval X tm)) (hi.map (aEval X tm)) (aEval X tm mx) with
    | some n => some (.own nx 0 0 n, [(nx, .dead)])
    | none => none
  | .fieldAddr s x f => match aField X.T L s f (aEval X tm x) with
    | some y => some (y, [])
    | none => none
  | .indexAddr t x i => match aIndexAddr X.T L t (aEval X tm x) (aEval X tm i) with
    | some y => some (y, [])
    | none => none
  | .index t x i => match aIndexStr X.T t (aEval X tm x) (aEval X tm i) with
    | some y => some (y, [])
    | none => none
  | .extract x i => match aExtract (aEval X tm x) i with
    | some y => some (y, [])
    | none => none
  | .typeAssert x _ t true => match aAssert X.T (aEval X tm x) t with
    | some y => some (y, [])
    | none => none
  | .range t x => match aRange X.T t (aEval X tm x) with
    | some s => some (.bp nx 0, [(nx, .it s 0)])
    | none => none
  | .next x true => aNext L (aEval X tm x)
  | .call c => match c.callee with
    | .builtin b => aBuiltin X tm L nx b c.args.toList c.argTypes.toList
    | _ => none
  | _ => none

end Go.Pl
