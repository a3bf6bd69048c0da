/- The same machine, its temporaries in a trie and its text looked at once: what the kernel runs quickly. -/
import Derived.Test.YtkaaolegkffckaaGreatDoorPlTab
set_option linter.unusedVariables false
set_option linter.unusedSimpArgs false
namespace Go.Pl

/-! ### Temporaries in a trie -/
inductive Tr where
  | lf
  | nd (l : Tr) (v : AV) (r : Tr)

/-- Place n: 0 at the root, odd ones to the left, the others to the right. -/
def Tr.get : Tr → Nat → AV
  | .lf, _ => undefA
  | .nd l v r, n => if n = 0 then v else if n % 2 = 1 then l.get (n / 2) else r.get (n / 2 - 1)

/-- Only what is there is set. -/
def Tr.set : Tr → Nat → AV → Tr
  | .lf, _, _ => .lf
  | .nd l v r, n, x => if n = 0 then .nd l x r else if n % 2 = 1 then .nd (l.set (n / 2) x) v r else .nd l v (r.set (n / 2 - 1) x)

def Tr.has : Tr → Nat → Bool
  | .lf, _ => false
  | .nd l v r, n => if n = 0 then true else if n % 2 = 1 then l.has (n / 2) else r.has (n / 2 - 1)

theorem Tr.get_set : ∀ (t : Tr) (n m : Nat) (x : AV), (t.set n x).get m = if n = m ∧ t.has n = true then x else t.get m
  | .lf, n, m, x => by simp [Tr.set, Tr.get, Tr.has]
  | .nd l v r, n, m, x => by
    have hl := Tr.get_set l (n / 2) (m / 2) x
    have hr := Tr.get_set r (n / 2 - 1) (m / 2 - 1) x
    by_cases hn : n = 0
    · subst hn
      simp only [Tr.set, if_true, Tr.get, Tr.has]
      by_cases hm : m = 0
      · subst hm; simp
      · simp [hm, Ne.symm hm]
    · by_cases hn2 : n % 2 = 1
      · simp only [Tr.set, hn, hn2, if_true, if_false, Tr.get, Tr.has]
        by_cases hm : m = 0
        · subst hm; simp [hn]
        · by_cases hm2 : m % 2 = 1
          · simp only [hm, hm2, if_true, if_false, hl]
            have : (n / 2 = m / 2) ↔ n = m := by omega
            simp only [this]
          · simp only [hm, hm2, if_false]
            rw [if_neg]
            rintro ⟨rfl, _⟩
            exact hm2 hn2
      · simp only [Tr.set, hn, hn2, if_false, Tr.get, Tr.has]
        by_cases hm : m = 0
        · subst hm; simp [hn]
        · by_cases hm2 : m % 2 = 1
          · simp only [hm, hm2, if_true, if_false]
            rw [if_neg]
            rintro ⟨rfl, _⟩
            exact hn2 hm2
          · simp only [hm, hm2, if_false, hr]
            have : (n / 2 - 1 = m / 2 - 1) ↔ n = m := by omega
            simp only [this]

/-- A trie says what a list says. -/
structure Tr.Says (t : Tr) (l : List AV) : Prop where
  get : ∀ n, t.get n = l.getD n undefA
  has : ∀ n, t.has n = true ↔ n < l.length

theorem Tr.has_set : ∀ (t : Tr) (n m : Nat) (x : AV), (t.set n x).has m = t.has m
  | .lf, n, m, x => rfl
  | .nd l v r, n, m, x => by
    have hl := Tr.has_set l (n / 2) (m / 2) x
    have hr := Tr.has_set r (n / 2 - 1) (m / 2 - 1) x
    simp only [Tr.set]
    split
    · simp [Tr.has]
    · split
      · simp only [Tr.has, hl]
      · simp only [Tr.has, hr]

theorem Tr.Says.set {t : Tr} {l : List AV} (h : t.Says l) (n : Nat) (x : AV) : (t.set n x).Says (l.set n x) := by
  refine ⟨fun m => ?_, fun m => by rw [Tr.has_set, h.has, List.length_set]⟩
  rw [Tr.get_set, h.get m, List.getD_eq_getElem?_getD, List.getD_eq_getElem?_getD]
  by_cases hnm : n = m
  · subst hnm
    by_cases hl : n < l.length
    · simp [(h.has n).2 hl, hl]
    · have : ¬ t.has n = true := fun e => hl ((h.has n).1 e)
      simp [this, hl]
  · simp [hnm, List.getElem?_set_ne hnm]
def aBuiltinE (X : Env) (ev : Operand → AV) (L : Nat → Blk) (nx : Nat) (b : Builtin) (args : List Operand) (ts : List TypeId) : Option (AV × Us) :=
  match b, args, ts with
  | .len, [x], [t] => (match aLen X.T L t (ev x) with
    | some n => some (.p (.v (.int .i64 n)), [])
    | none => none)
  | .append, [x, y], [t, t'] => (match aAppend X.T L nx t t' (ev x) (ev y) with
      | some (z, b, blk) => some (z, [(b, blk)])
      | none => none)
  | .min, [x, y], _ => (match aMinMax false (ev x) (ev y) with
    | some y => some (y, [])
    | none => none)
  | .max, [x, y], _ => (match aMinMax true (ev x) (ev y) with
    | some y => some (y, [])
    | none => none)
  | .clear, [x], [t] => (match aClear X.T L t (ev x) with
    | some (b, blk) => some (.tup [], [(b, blk)])
    | none => none)
  | _, _, _ => none

def go1 (X : Env) (ev : Operand → AV) (L : Nat → Blk) (nx : Nat) (c : Operand) (a : Operand) (b : Operand) : Option (AV × Us) := match ev c with
    | .p (.v (.bool r)) => some (if r then ev a else ev b, [])
    | _ => none
def go2 (X : Env) (ev : Operand → AV) (L : Nat → Blk) (nx : Nat) (e : TypeId) : Option (AV × Us) := match X.T e with
    | some ti => some (.bp nx 0, [(nx, .box (zeroCs ti))])
    | none => none
def go3 (X : Env) (ev : Operand → AV) (L : Nat → Blk) (nx : Nat) (e : TypeId) (x : Operand) : Option (AV × Us) := match cellsOf (ev x) with
    | some cs => some (.bp nx 0, [(nx, .box cs)])
    | none => none
def go4 (X : Env) (ev : Operand → AV) (L : Nat → Blk) (nx : Nat) (t : TypeId) (parts : Array (Nat × Operand)) : Option (AV × Us) := match aBuild X.T t (parts.toList.map fun p => (p.1, ev p.2)) with
    | some y => some (y, [])
    | none => none
def go5 (X : Env) (ev : Operand → AV) (L : Nat → Blk) (nx : Nat) (t : TypeId) (len : Nat) (parts : Array (Nat × Operand)) : Option (AV × Us) := match aBuildSl X.nest X.T L t len (parts.toList.map fun p => (p.1, ev p.2)) with
    | some (fr, sz, els) => if fr.all (fun p => !(p.1 == nx)) = true then some (.own nx 0 0 els.length, fr ++ [(nx, .arr false 0 sz els)]) else none
    | none => none
def go6 (X : Env) (ev : Operand → AV) (L : Nat → Blk) (nx : Nat) (t : TypeId) (a : Operand) : Option (AV × Us) := match X.T t with
    | some ti => (match readCells L ti.size (ev a) with
      | some cs => some (aMk ti cs, [])
      | none => none)
    | none => none
def go7 (X : Env) (ev : Operand → AV) (L : Nat → Blk) (nx : Nat) (t : TypeId) (a : Operand) (x : Operand) : Option (AV × Us) := match X.T t, cellsOf (ev x) with
    | some ti, some cs => if cs.length = ti.size then (match aStore X.nest L (ev a) cs with
      | some us => some (undefA, us)
      | none => none) else none
    | _, _ => none
def go8 (X : Env) (ev : Operand → AV) (L : Nat → Blk) (nx : Nat) (x : Operand) : Option (AV × Us) := if ptrOk L (ev x) = true then some (ev x, []) else none
def go9 (X : Env) (ev : Operand → AV) (L : Nat → Blk) (nx : Nat) (op : BinOp) (t : TypeId) (x : Operand) (y : Operand) : Option (AV × Us) := match aNilOwn X.T L op t y (ev x) with
    | some v => some (.p (.v v), [])
    | none => (match aBin X.T X.E op t y (ev x) (ev y) with
      | some v => some (.p (.v v), [])
      | none => none)
def go10 (X : Env) (ev : Operand → AV) (L : Nat → Blk) (nx : Nat) (op : UnOp) (x : Operand) : Option (AV × Us) := match aUn op (ev x) with
    | some y => some (y, [])
    | none => none
def go11 (X : Env) (ev : Operand → AV) (L : Nat → Blk) (nx : Nat) (s : TypeId) (d : TypeId) (x : Operand) : Option (AV × Us) := match aConvInt X.T s d (ev x) with
    | some y => some (y, [])
    | none => (match aToBytes X.T s d (ev x) with
      | some els => some (.own nx 0 0 els.length, [(nx, .arr false 0 1 els)])
      | none => (match aToStr X.T L s d (ev x) with
        | some y => some (y, [])
        | none => none))
def go12 (X : Env) (ev : Operand → AV) (L : Nat → Blk) (nx : Nat) (t : TypeId) (x : Operand) : Option (AV × Us) := match aMkIf X.T t (ev x) with
    | some y => some (y, [])
    | none => none
def go13 (X : Env) (ev : Operand → AV) (L : Nat → Blk) (nx : Nat) (fn : Fn) (first : Array Operand) (caps : Array Operand) : Option (AV × Us) := match fn, first.toList with
    | .func f, [] => some (.clo f (caps.toList.map (ev)), [])
    | _, _ => none
def go14 (X : Env) (ev : Operand → AV) (L : Nat → Blk) (nx : Nat) (t : TypeId) (l : Operand) (c : Operand) : Option (AV × Us) := match aMkSl X.T t (ev l) (ev c) with
    | some (sz, els) => some (.own nx 0 0 els.length, [(nx, .arr false 0 sz els)])
    | none => none
def go15 (X : Env) (ev : Operand → AV) (L : Nat → Blk) (nx : Nat) (t : TypeId) (x : Operand) (lo : Option Operand) (hi : Option Operand) : Option (AV × Us) := match aSlice X.T L t (ev x) (lo.map (ev)) (hi.map (ev)) with
    | some y => some (y, [])
    | none => none
def go16 (X : Env) (ev : Operand → AV) (L : Nat → Blk) (nx : Nat) (t : TypeId) (x : Operand) (lo : Option Operand) (hi : Option Operand) (mx : Operand) : Option (AV × Us) := match aSlice3 X.T L t (ev x) (lo.map (ev)) (hi.map (ev)) (ev mx) with
    | some n => some (.own nx 0 0 n, [(nx, .dead)])
    | none => none
def go17 (X : Env) (ev : Operand → AV) (L : Nat → Blk) (nx : Nat) (s : TypeId) (x : Operand) (f : Nat) : Option (AV × Us) := match aField X.T L s f (ev x) with
    | some y => some (y, [])
    | none => none
def go18 (X : Env) (ev : Operand → AV) (L : Nat → Blk) (nx : Nat) (t : TypeId) (x : Operand) (i : Operand) : Option (AV × Us) := match aIndexAddr X.T L t (ev x) (ev i) with
    | some y => some (y, [])
    | none => none
def go19 (X : Env) (ev : Operand → AV) (L : Nat → Blk) (nx : Nat) (t : TypeId) (x : Operand) (i : Operand) : Option (AV × Us) := match aIndexStr X.T t (ev x) (ev i) with
    | some y => some (y, [])
    | none => none
def go20 (X : Env) (ev : Operand → AV) (L : Nat → Blk) (nx : Nat) (x : Operand) (i : Nat) : Option (AV × Us) := match aExtract (ev x) i with
    | some y => some (y, [])
    | none => none
def go21 (X : Env) (ev : Operand → AV) (L : Nat → Blk) (nx : Nat) (x : Operand) (t : TypeId) : Option (AV × Us) := match aAssert X.T (ev x) t with
    | some y => some (y, [])
    | none => none
def go22 (X : Env) (ev : Operand → AV) (L : Nat → Blk) (nx : Nat) (c : Call) : Option (AV × Us) := match c.callee with
    | .builtin b => aBuiltinE X ev L nx b c.args.toList c.argTypes.toList
    | _ => none

def go23 (X : Env) (ev : Operand → AV) (L : Nat → Blk) (nx : Nat) (t : TypeId) (x : Operand) : Option (AV × Us) := match aRange X.T t (ev x) with
    | some s => some (.bp nx 0, [(nx, .it s 0)])
    | none => none
def go24 (X : Env) (ev : Operand → AV) (L : Nat → Blk) (x : Operand) : Option (AV × Us) := aNext L (ev x)

def aop3 (X : Env) (ev : Operand → AV) (L : Nat → Blk) (nx : Nat) : Op → Option (AV × Us)
  | .move x | .assign x => some (ev x, [])
  | .pick c a b => go1 X ev L nx c a b
  | .alloc e => go2 X ev L nx e
  | .box e x => go3 X ev L nx e x
  | .build t parts => go4 X ev L nx t parts
  | .buildSlice t len parts => go5 X ev L nx t len parts
  | .load t a => go6 X ev L nx t a
  | .store t a x => go7 X ev L nx t a x
  | .nilCheck x => go8 X ev L nx x
  | .binOp op t x y _ => go9 X ev L nx op t x y
  | .unOp op _ x => go10 X ev L nx op x
  | .convert s d x => go11 X ev L nx s d x
  | .makeInterface t x => go12 X ev L nx t x
  | .makeFunc fn first caps => go13 X ev L nx fn first caps
  | .makeSlice t l c => go14 X ev L nx t l c
  | .slice t x lo hi none => go15 X ev L nx t x lo hi
  | .slice t x lo hi (some mx) => go16 X ev L nx t x lo hi mx
  | .fieldAddr s x f => go17 X ev L nx s x f
  | .indexAddr t x i => go18 X ev L nx t x i
  | .index t x i => go19 X ev L nx t x i
  | .extract x i => go20 X ev L nx x i
  | .typeAssert x _ t true => go21 X ev L nx x t
  | .call c => go22 X ev L nx c
  | .range t x => go23 X ev L nx t x
  | .next x true => go24 X ev L x
  | _ => none


theorem aop3_eq (X : Env) (tm : List AV) (L : Nat → Blk) (nx : Nat) (op : Op) : aop3 X (aEval X tm) L nx op = aop2 X tm L nx op := by
  cases op with
  | slice t x lo hi mx => cases mx <;> rfl
  | typeAssert x y t ok => cases ok <;> rfl
  | next x ok => cases ok <;> rfl
  | _ => rfl

def Tr.mk : Nat → Nat → Tr
  | 0, _ => .lf
  | n + 1, s => if s = 0 then .lf else .nd (Tr.mk n (s / 2)) undefA (Tr.mk n ((s - 1) / 2))

theorem Tr.mk_has : ∀ (n s m : Nat), s < 2 ^ n → ((Tr.mk n s).has m = true ↔ m < s)
  | 0, s, m, h => by
    have : s = 0 := by simpa using h
    subst this; simp [Tr.mk, Tr.has]
  | n + 1, s, m, h => by
    simp only [Tr.mk]
    split
    · rename_i h0; subst h0; simp [Tr.has]
    · rename_i h0
      have hl := Tr.mk_has n (s / 2) (m / 2) (by rw [Nat.pow_succ] at h; omega)
      have hr := Tr.mk_has n ((s - 1) / 2) (m / 2 - 1) (by rw [Nat.pow_succ] at h; omega)
      simp only [Tr.has]
      split
      · simp; omega
      · split
        · rw [hl]; omega
        · rw [hr]; omega

theorem Tr.mk_get : ∀ (n s m : Nat), (Tr.mk n s).get m = undefA
  | 0, s, m => rfl
  | n + 1, s, m => by
    simp only [Tr.mk]
    split
    · rfl
    · simp only [Tr.get]
      split
      · rfl
      · split
        · exact Tr.mk_get n _ _
        · exact Tr.mk_get n _ _

def Tr.puts (t : Tr) : Nat → List AV → Tr
  | _, [] => t
  | i, x :: xs => Tr.puts (t.set i x) (i + 1) xs

def putsL (l : List AV) : Nat → List AV → List AV
  | _, [] => l
  | i, x :: xs => putsL (l.set i x) (i + 1) xs

theorem Tr.Says.puts : ∀ (xs : List AV) {t : Tr} {l : List AV} (i : Nat), t.Says l → (t.puts i xs).Says (putsL l i xs)
  | [], t, l, i, h => h
  | x :: xs, t, l, i, h => Tr.Says.puts xs (i + 1) (h.set i x)

theorem putsL_eq : ∀ (xs pre : List AV) (l : List AV), pre.length + xs.length ≤ (pre ++ l).length → putsL (pre ++ l) pre.length xs = pre ++ xs ++ l.drop xs.length
  | [], pre, l, _ => by simp [putsL]
  | x :: xs, pre, [], h => by simp at h; omega
  | x :: xs, pre, y :: l, h => by
    simp only [putsL]
    have e : (pre ++ y :: l).set pre.length x = (pre ++ [x]) ++ l := by
      rw [List.set_append_right _ _ (Nat.le_refl _)]
      simp
    rw [e]
    have := putsL_eq xs (pre ++ [x]) l (by simp at h ⊢; omega)
    rw [show (pre ++ [x]).length = pre.length + 1 by simp] at this
    rw [this]
    simp

/-- The temporaries when a function begins. -/
def Tr.init (n : Nat) (args : List AV) : Option Tr :=
  if args.length ≤ n ∧ n < 4096 then some ((Tr.mk 12 n).puts 0 args) else none

theorem Tr.init_says {n : Nat} {args : List AV} {t : Tr} (h : Tr.init n args = some t) : t.Says (args ++ List.replicate (n - args.length) undefA) := by
  unfold Tr.init at h
  split at h
  · rename_i hc
    simp only [Option.some.injEq] at h; subst h
    have h0 : (Tr.mk 12 n).Says (List.replicate n undefA) := by
      refine ⟨fun m => ?_, fun m => ?_⟩
      · rw [Tr.mk_get, List.getD_eq_getElem?_getD, List.getElem?_replicate]
        split <;> rfl
      · rw [Tr.mk_has 12 n m (by omega), List.length_replicate]
    have h1 := h0.puts args 0
    have h2 := putsL_eq args [] (List.replicate n undefA) (by simpa using hc.1)
    simp only [List.nil_append, List.length_nil, List.drop_replicate] at h2
    rwa [h2] at h1
  · simp at h

def aEvalT (X : Env) (tr : Tr) : Operand → AV
  | .tmp t => tr.get t
  | .const v => cst v
  | .global i => match X.Gl i with
    | some cs => .rp cs
    | none => .p (.v (.pointer (some ⟨i, 0, none⟩)))
  | .func f => .clo f []

theorem aEvalT_eq {X : Env} {tr : Tr} {tm : List AV} (h : tr.Says tm) : aEvalT X tr = aEval X tm := by
  funext x
  cases x with
  | tmp t => exact h.get t
  | _ => rfl

def yieldT (ops : Array Oper) (tr : Tr) (j : Nat) : Option (Option Bool) :=
  match (ops[j]?).bind (·.dst) with
  | none => some none
  | some t => if tr.has t then (match tr.get t with
    | .p (.v (.bool b)) => some (some b)
    | .tup [] => some none
    | _ => none) else none

theorem yieldT_eq {ops : Array Oper} {tr : Tr} {tm : List AV} (h : tr.Says tm) (j : Nat) : yieldT ops tr j = yieldA ops tm j := by
  unfold yieldT yieldA
  cases (ops[j]?).bind (·.dst) with
  | none => rfl
  | some t =>
    simp only
    by_cases hl : t < tm.length
    · rw [if_pos ((h.has t).2 hl), h.get t, List.getD_eq_getElem?_getD, List.getElem?_eq_getElem hl]
      simp only [Option.getD_some]
      cases tm[t] <;> first | rfl | skip
      all_goals (rename_i y; cases y <;> first | rfl | skip)
      all_goals (rename_i y; cases y <;> rfl)
    · rw [if_neg (fun e => hl ((h.has t).1 e)), List.getElem?_eq_none (Nat.le_of_not_lt hl)]

def aWantedT (ops : Array Oper) (tr : Tr) (o : Oper) : Option Bool :=
  match o.guard with
  | none => some true
  | some (j, want) => match yieldT ops tr j with
    | some r => some (r == some want)
    | none => none

theorem aWantedT_eq {ops : Array Oper} {tr : Tr} {tm : List AV} (h : tr.Says tm) (o : Oper) : aWantedT ops tr o = aWanted ops tm o := by
  unfold aWantedT aWanted
  cases o.guard with
  | none => rfl
  | some p =>
    obtain ⟨j, want⟩ := p
    simp only [yieldT_eq h]
    cases yieldA ops tm j <;> rfl

def opReadsE (ev : Operand → AV) : Op → List Nat
  | .binOp _ _ a _ _ => nms (ev a)
  | .load _ a | .nilCheck a | .next a _ | .fieldAddr _ a _ | .indexAddr _ a _ | .slice _ a _ _ _ | .convert _ _ a => nms (ev a)
  | .store _ a x => nms (ev a) ++ nms (ev x)
  | .buildSlice _ _ ps => nmss (ps.toList.map fun p => ev p.2)
  | .call c => nmss (c.args.toList.map ev)
  | _ => []

/-- Lists of numbers, bools reckoned out before one goes on. -/
def forceNs {β : Type} : List Nat → (List Nat → β) → β
  | [], K => K []
  | x :: xs, K => forceN x fun x => forceNs xs fun xs => K (x :: xs)
theorem forceNs_eq {β : Type} : ∀ (xs : List Nat) (K : List Nat → β), forceNs xs K = K xs
  | [], K => rfl
  | x :: xs, K => by simp only [forceNs, forceN_eq]; exact forceNs_eq xs _
def forceBo {β : Type} : Bool → (Bool → β) → β
  | true, K => K true
  | false, K => K false
theorem forceBo_eq {β : Type} (b : Bool) (K : Bool → β) : forceBo b K = K b := by cases b <;> rfl
def forceBos {β : Type} : List Bool → (List Bool → β) → β
  | [], K => K []
  | x :: xs, K => forceBo x fun x => forceBos xs fun xs => K (x :: xs)
theorem forceBos_eq {β : Type} : ∀ (xs : List Bool) (K : List Bool → β), forceBos xs K = K xs
  | [], K => rfl
  | x :: xs, K => by simp only [forceBos, forceBo_eq]; exact forceBos_eq xs _

def callWith (F : Orc) (md : List Bool) (S : List Blk) (av caps : List AV) (f : FuncId) (σl : List Nat) : Option Rec :=
  match callIn (fnS S) S.length md σl av caps with
    | some (ys, S0, fr) => match F f ys S0 with
      | some (r, S1) => some (mkRec (fnS S) S.length fr σl av r S1)
      | none => none
    | none => none

def evCallE (F : Orc) (X : Env) (md : FuncId → List Bool) (ev : Operand → AV) (S : List Blk) (fx : Operand) (args : Array Operand) : Option Rec :=
  match ev fx with
  | .clo f caps => match settleArgs (fnS S) (md f) (args.toList.map ev) with
    | some (xs, _) => forceNs (reachN (fnS S) 1000 (nmss (xs ++ caps)) []) fun σl => callWith F (md f) S (args.toList.map ev) caps f σl
    | none => none
  | _ => none

theorem evCallE_eq (F : Orc) (X : Env) (md : FuncId → List Bool) (tm : List AV) (S : List Blk) (fx : Operand) (args : Array Operand) : evCallE F X md (aEval X tm) S fx args = evCall F X md tm S fx args := by
  unfold evCallE evCall
  cases aEval X tm fx <;> first | rfl | skip
  rename_i f caps
  simp only
  cases settleArgs (fnS S) (md f) (args.toList.map (aEval X tm)) with
  | none => rfl
  | some p =>
    obtain ⟨xs, us⟩ := p
    simp only [forceNs_eq]
    rfl

def plainRecE (rd : List Nat) : Option (AV × Us) → Option Rec
  | some (y, us) => some ⟨y, us, rd ++ us.map (·.1)⟩
  | none => none

def evOp1E (F : Orc) (X : Env) (md : FuncId → List Bool) (ev : Operand → AV) (S : List Blk) (op : Op) : Option (Operand × Array Operand) → Option Rec
  | some (fx, args) => evCallE F X md ev S fx args
  | none => plainRecE (opReadsE ev op) (aop3 X ev (fnS S) S.length op)

def evOpW (F : Orc) (X : Env) (md : FuncId → List Bool) (tr : Tr) (S : List Blk) (o : Oper) : Option Bool → Option Rec
  | none => none
  | some false => some ⟨undefA, [], []⟩
  | some true => evOp1E F X md (aEvalT X tr) S o.op (callOf o.op)

def evOpT (F : Orc) (X : Env) (md : FuncId → List Bool) (ops : Array Oper) (tr : Tr) (S : List Blk) (o : Oper) : Option Rec :=
  evOpW F X md tr S o (aWantedT ops tr o)

theorem evOpT_eq {F : Orc} {X : Env} {md : FuncId → List Bool} {ops : Array Oper} {tr : Tr} {tm : List AV} (h : tr.Says tm) (S : List Blk) (o : Oper) : evOpT F X md ops tr S o = evOp F X md ops tm S o := by
  unfold evOpT evOp
  rw [aWantedT_eq h]
  cases aWanted ops tm o with
  | none => rfl
  | some b =>
    cases b with
    | false => rfl
    | true =>
      simp only [evOpW]
      rw [aEvalT_eq h]
      cases callOf o.op with
      | some p => exact evCallE_eq F X md tm S p.1 p.2
      | none =>
        simp only [evOp1E, evOp1, aop3_eq]
        rfl

def putT (tr : Tr) (dst : Option Tmp) (y : AV) : Tr :=
  match dst with
  | some d => tr.set d y
  | none => tr

theorem putT_says {tr : Tr} {tm : List AV} (h : tr.Says tm) (dst : Option Tmp) (y : AV) : (putT tr dst y).Says (putA tm dst y) := by
  cases dst with
  | none => exact h
  | some d => exact h.set d y

def evOpsT (F : Orc) (X : Env) (md : FuncId → List Bool) (ops : Array Oper) : List Oper → Tr → List Blk → Option (List Rec × Tr × List Blk)
  | [], tr, S => some ([], tr, S)
  | o :: os, tr, S => match evOpT F X md ops tr S o with
    | some r => match evOpsT F X md ops os (putT tr o.dst r.y) (updS S r.us) with
      | some (rs, tr', S') => some (r :: rs, tr', S')
      | none => none
    | none => none

theorem evOpsT_ok {F : Orc} {X : Env} {md : FuncId → List Bool} {ops : Array Oper} : ∀ {os : List Oper} {tr : Tr} {tm : List AV} {S : List Blk} {rs tr' S'}, tr.Says tm →
    evOpsT F X md ops os tr S = some (rs, tr', S') → ∃ tm', tr'.Says tm' ∧ evOps F X md ops os tm S = some (rs, tm', S')
  | [], tr, tm, S, rs, tr', S', h, he => by simp [evOpsT] at he; obtain ⟨rfl, rfl, rfl⟩ := he; exact ⟨tm, h, rfl⟩
  | o :: os, tr, tm, S, rs, tr', S', h, he => by
    simp only [evOpsT] at he
    split at he
    · rename_i r hr
      split at he
      · rename_i rs2 tr2 S2 h2
        simp only [Option.some.injEq, Prod.mk.injEq] at he
        obtain ⟨rfl, rfl, rfl⟩ := he
        rw [evOpT_eq h] at hr
        obtain ⟨tm', h3, h4⟩ := evOpsT_ok (putT_says h o.dst r.y) h2
        exact ⟨tm', h3, by simp only [evOps, hr, h4]⟩
      · simp at he
    · simp at he

/-! ### The orders of a region, looked at once -/
def quickAt (r : Rec) : List Rec → Bool
  | [] => true
  | r' :: rs => noConfB r' r && quickAt r rs
def quickB : List Rec → List Rec → Bool
  | _, [] => true
  | done, r :: rs => quickAt r done && quickB (done ++ [r]) rs

theorem quickAt_ok {pre : Nat} {r : Rec} : ∀ {rs : List Rec} (i : Nat), quickAt r rs = true → calmAtB pre r i rs = true
  | [], i, _ => rfl
  | r' :: rs, i, h => by
    simp only [quickAt, Bool.and_eq_true] at h
    simp only [calmAtB, h.1, Bool.true_or, Bool.true_and]
    exact quickAt_ok (i + 1) h.2

theorem quickB_ok {pres : List Nat} : ∀ {rs done : List Rec} (j : Nat), quickB done rs = true → calmGoB pres j done rs = true
  | [], done, j, _ => rfl
  | r :: rs, done, j, h => by
    simp only [quickB, Bool.and_eq_true] at h
    simp only [calmGoB, quickAt_ok 0 h.1, Bool.true_and]
    exact quickB_ok (j + 1) h.2

/-- The blocks' part, quick ways first. -/
def calmQ (ops : Array Oper) (rs : List Rec) : Bool := rs.all (fun r => r.us.isEmpty) || (quickB [] rs || calmGoB (presOf ops) 0 [] rs)

theorem calmQ_ok {ops : Array Oper} {rs : List Rec} (h1 : calmT ops = true) (h2 : calmQ ops rs = true) : calm ops rs = true := by
  unfold calm
  rw [h1, Bool.true_and]
  unfold calmQ at h2
  simp only [Bool.or_eq_true] at h2 ⊢
  rcases h2 with h | h | h
  · exact .inl h
  · exact .inr (quickB_ok 0 h)
  · exact .inr h

def allCalmT : Code → Bool
  | .region _ ops draw => !draw || calmT ops
  | .seq x y => allCalmT x && allCalmT y
  | .cond _ x y => allCalmT x && allCalmT y
  | .block _ c => allCalmT c
  | .loop c => allCalmT c
  | _ => true

def regT (ops : Array Oper) (draw : Bool) : Option (List Rec × Tr × List Blk) → Option (Exit × Tr × List Blk)
  | some (rs, tr', S') => if draw then (if calmQ ops rs then forceBs S' fun S' => some (.normal, tr', S') else none) else forceBs S' fun S' => some (.normal, tr', S')
  | none => none

def seqT (k : Tr → List Blk → Option (Exit × Tr × List Blk)) : Option (Exit × Tr × List Blk) → Option (Exit × Tr × List Blk)
  | some (.normal, tr, S) => k tr S
  | r => r

def condT (a b : Option (Exit × Tr × List Blk)) : AV → Option (Exit × Tr × List Blk)
  | .p (.v (.bool true)) => a
  | .p (.v (.bool false)) => b
  | _ => none

def blockT (id : Nat) : Option (Exit × Tr × List Blk) → Option (Exit × Tr × List Blk)
  | some (e, tr, S) => some (blockE id e, tr, S)
  | none => none

/-- Code; the number bounds the depth and the rounds. -/
def evCodeT (F : Orc) (X : Env) (md : FuncId → List Bool) : Nat → Code → Tr → List Blk → Option (Exit × Tr × List Blk)
  | 0, _, _, _ => none
  | n + 1, c, tr, S => match c with
    | .skip | .label _ => some (.normal, tr, S)
    | .exit id => some (.exit id, tr, S)
    | .ret => some (.ret, tr, S)
    | .region _ ops draw => regT ops draw (evOpsT F X md ops ops.toList tr S)
    | .seq x y => seqT (fun tr S => evCodeT F X md n y tr S) (evCodeT F X md n x tr S)
    | .cond o x y => condT (evCodeT F X md n x tr S) (evCodeT F X md n y tr S) (aEvalT X tr o)
    | .block id c => blockT id (evCodeT F X md n c tr S)
    | .loop c => seqT (fun tr S => evCodeT F X md n (.loop c) tr S) (evCodeT F X md n c tr S)
    | _ => none

theorem evCodeT_ok {F : Orc} {X : Env} (hX : EnvOk X) (hF : OrcOk X F) {md : FuncId → List Bool} : ∀ {n : Nat} {c : Code} {tr : Tr} {tm : List AV} {S : List Blk} {e tr' S'}, allCalmT c = true → tr.Says tm →
    evCodeT F X md n c tr S = some (e, tr', S') → ∃ tm', tr'.Says tm' ∧ CodeOk X c tm (fnS S) e tm' (fnS S') ∧ ∀ b, c = .loop b → Rounds X b tm (fnS S) e tm' (fnS S')
  | 0, c, tr, tm, S, e, tr', S', _, _, h => by simp [evCodeT] at h
  | n + 1, c, tr, tm, S, e, tr', S', hc, hs, h => by
    cases c with
    | skip => simp [evCodeT] at h; obtain ⟨rfl, rfl, rfl⟩ := h; exact ⟨tm, hs, .skip, fun _ h => by cases h⟩
    | label => simp [evCodeT] at h; obtain ⟨rfl, rfl, rfl⟩ := h; exact ⟨tm, hs, .label, fun _ h => by cases h⟩
    | exit => simp [evCodeT] at h; obtain ⟨rfl, rfl, rfl⟩ := h; exact ⟨tm, hs, .exit, fun _ h => by cases h⟩
    | ret => simp [evCodeT] at h; obtain ⟨rfl, rfl, rfl⟩ := h; exact ⟨tm, hs, .ret, fun _ h => by cases h⟩
    | region id ops draw =>
      simp only [evCodeT] at h
      unfold regT at h
      split at h
      · rename_i rs tr1 S1 h1
        obtain ⟨tm1, hs1, h2⟩ := evOpsT_ok hs h1
        have hch := evOps_ok hX hF h2
        cases draw with
        | false =>
          simp only [Bool.false_eq_true, if_false, forceBs_eq, Option.some.injEq, Prod.mk.injEq] at h
          obtain ⟨rfl, rfl, rfl⟩ := h
          exact ⟨tm1, hs1, region_text hch, fun _ h => by cases h⟩
        | true =>
          simp only [if_true] at h
          split at h
          · rename_i hq
            simp only [forceBs_eq, Option.some.injEq, Prod.mk.injEq] at h
            obtain ⟨rfl, rfl, rfl⟩ := h
            exact ⟨tm1, hs1, region_any hX hch (calmQ_ok (by simpa [allCalmT] using hc) hq), fun _ h => by cases h⟩
          · simp at h
      · simp at h
    | seq x y =>
      simp only [allCalmT, Bool.and_eq_true] at hc
      simp only [evCodeT] at h
      unfold seqT at h
      split at h
      · rename_i tr1 S1 h1
        obtain ⟨tm1, hs1, hk1, _⟩ := evCodeT_ok hX hF hc.1 hs h1
        obtain ⟨tm2, hs2, hk2, _⟩ := evCodeT_ok hX hF hc.2 hs1 h
        exact ⟨tm2, hs2, CodeOk.seq hk1 hk2, fun _ h => by cases h⟩
      · rename_i hne
        obtain ⟨tm1, hs1, hk1, _⟩ := evCodeT_ok hX hF hc.1 hs h
        refine ⟨tm1, hs1, CodeOk.seq_out hk1 fun he => ?_, fun _ h => by cases h⟩
        subst he
        exact hne _ _ h
    | cond o x y =>
      simp only [allCalmT, Bool.and_eq_true] at hc
      simp only [evCodeT] at h
      unfold condT at h
      rw [aEvalT_eq hs] at h
      split at h
      · rename_i hb
        obtain ⟨tm1, hs1, hk1, _⟩ := evCodeT_ok hX hF hc.1 hs h
        exact ⟨tm1, hs1, CodeOk.cond hb (by simpa using hk1), fun _ h => by cases h⟩
      · rename_i hb
        obtain ⟨tm1, hs1, hk1, _⟩ := evCodeT_ok hX hF hc.2 hs h
        exact ⟨tm1, hs1, CodeOk.cond hb (by simpa using hk1), fun _ h => by cases h⟩
      · simp at h
    | block id c =>
      simp only [evCodeT] at h
      unfold blockT at h
      split at h
      · rename_i e1 tr1 S1 h1
        simp at h; obtain ⟨rfl, rfl, rfl⟩ := h
        obtain ⟨tm1, hs1, hk1, _⟩ := evCodeT_ok hX hF (by simpa [allCalmT] using hc) hs h1
        exact ⟨tm1, hs1, CodeOk.block hk1, fun _ h => by cases h⟩
      · simp at h
    | loop c =>
      have hc' : allCalmT c = true := by simpa [allCalmT] using hc
      have hR : ∃ tm', tr'.Says tm' ∧ Rounds X c tm (fnS S) e tm' (fnS S') := by
        simp only [evCodeT] at h
        unfold seqT at h
        split at h
        · rename_i tr1 S1 h1
          obtain ⟨tm1, hs1, hk1, _⟩ := evCodeT_ok hX hF hc' hs h1
          obtain ⟨tm2, hs2, _, hk2⟩ := evCodeT_ok hX hF hc hs1 h
          exact ⟨tm2, hs2, .more hk1 (hk2 c rfl)⟩
        · rename_i hne
          obtain ⟨tm1, hs1, hk1, _⟩ := evCodeT_ok hX hF hc' hs h
          refine ⟨tm1, hs1, .out hk1 fun he => ?_⟩
          subst he
          exact hne _ _ h
      obtain ⟨tm', hs', hR⟩ := hR
      exact ⟨tm', hs', CodeOk.loop hR, fun b hb => by cases hb; exact hR⟩
    | _ => simp [evCodeT] at h

def resT (X : Env) (tr : Tr) (L : Nat → Blk) : List ResultVar → Option (List AV)
  | [] => some []
  | .tmp t :: rs => match resT X tr L rs with
    | some vs => some (tr.get t :: vs)
    | none => none
  | .cell a t :: rs => match X.T t, resT X tr L rs with
    | some ti, some vs => (match readCells L ti.size (tr.get a) with
      | some cs => some (aMk ti cs :: vs)
      | none => none)
    | _, _ => none

theorem resT_eq {X : Env} {tr : Tr} {tm : List AV} (h : tr.Says tm) (L : Nat → Blk) : ∀ rs : List ResultVar, resT X tr L rs = resA X tm L rs
  | [] => rfl
  | .tmp t :: rs => by
    simp only [resT, resA, resT_eq h L rs, h.get t]
    cases resA X tm L rs <;> rfl
  | .cell a t :: rs => by
    simp only [resT, resA, resT_eq h L rs, h.get a]
    cases X.T t with
    | none => cases resA X tm L rs <;> rfl
    | some ti =>
      cases resA X tm L rs with
      | none => rfl
      | some vs =>
        simp only
        cases readCells L ti.size (tm.getD a undefA) <;> rfl

/-- What is left of a function's run: which of its first blocks go on is told by `dl`, the names by `σl`. -/
def leaveWith (rmd : List Bool) (k : Nat) (rs : List AV) (S' : List Blk) (dl : List Bool) (σl : List Nat) : Option (AV × List Blk) :=
  exitOut (fnS S') k rmd σl (fun i => dl.getD i false) rs

def deadL (L : Nat → Blk) (R : List Nat) : Nat → List Blk → List Bool
  | _, [] => []
  | i, .box _ :: S => false :: deadL L R (i + 1) S
  | i, _ :: S => (!(R.contains i && goesOn (L i))) :: deadL L R (i + 1) S

def firstL (len : Nat) : Nat → List Bool → List Nat
  | _, [] => []
  | i, true :: dl => len :: firstL len (i + 1) dl
  | i, false :: dl => i :: firstL len (i + 1) dl

def keptL : Nat → List Bool → List Nat
  | _, [] => []
  | i, true :: dl => keptL (i + 1) dl
  | i, false :: dl => i :: keptL (i + 1) dl

def leave (X : Env) (rmd : List Bool) (fn : Func) (args : List AV) (S0 : List Blk) (tr : Tr) (S' : List Blk) : Option (AV × List Blk) :=
  match resT X tr (fnS S') fn.results.toList with
  | some rs => (match settleArgs (fnS S') rmd rs with
    | some (xs, fr) => forceNs (reachN (upds (fnS S') fr) 1000 (nmss args) []) fun R => forceBos (deadL (upds (fnS S') fr) R 0 S0) fun dl =>
      forceNs (keptL 0 dl) fun kept => forceNs (reachN (upds (fnS S') fr) 1000 (kept ++ nmss xs) []) fun all =>
        forceNs (firstL S'.length 0 dl ++ all.filter (fun b => !kept.contains b)) fun σl => leaveWith rmd S0.length rs S' dl σl
    | none => none)
  | none => none

def leaveE (X : Env) (rmd : List Bool) (fn : Func) (args : List AV) (S0 : List Blk) : Option (Exit × Tr × List Blk) → Option (AV × List Blk)
  | some (.normal, tr, S') => leave X rmd fn args S0 tr S'
  | some (.ret, tr, S') => leave X rmd fn args S0 tr S'
  | _ => none

def runBody (F : Orc) (X : Env) (md rmd : FuncId → List Bool) (f : FuncId) (fn : Func) (c : Code) (args : List AV) (S0 : List Blk) : Option (AV × List Blk) :=
  match Tr.init fn.ntmps args with
  | some tr => leaveE { X with nest := X.kp f } (rmd f) fn args S0 (evCodeT F { X with nest := X.kp f } md 100000 c tr S0)
  | none => none

/-- A function of the program, its body looked at. -/
structure FnOk (X : Env) (f : FuncId) (fn : Func) (c : Code) : Prop where
  get : X.P.funcs[f]? = some fn
  name : (fn.name == "runtime.NumGoroutine") = false
  body : fn.body = some c
  calm : allCalmT c = true

theorem runBody_ok {X : Env} (hX : EnvOk X) {F : Orc} (hF : OrcOk X F) {md rmd : FuncId → List Bool} {f : FuncId} {fn : Func} {c : Code} (hf : FnOk X f fn c) {args : List AV} {S0 : List Blk} {r : AV} {S1 : List Blk}
    (h : runBody F X md rmd f fn c args S0 = some (r, S1)) : Sem X f args S0 r S1 := by
  unfold runBody at h
  split at h
  · rename_i tr htr
    have hs := Tr.init_says htr
    have hX' : EnvOk { X with nest := X.kp f } := ⟨hX.T, hX.E, hX.mixed⟩
    have hF' : OrcOk { X with nest := X.kp f } F := fun f args S0 r S1 h => hF f args S0 r S1 h
    have fin : ∀ {e tr' S'}, evCodeT F { X with nest := X.kp f } md 100000 c tr S0 = some (e, tr', S') → (e = .normal ∨ e = .ret) → leave { X with nest := X.kp f } (rmd f) fn args S0 tr' S' = some (r, S1) → Sem X f args S0 r S1 := by
      intro e tr' S' hev he hl
      obtain ⟨tm', hs', hcode, _⟩ := evCodeT_ok hX' hF' hf.calm hs hev
      unfold leave at hl
      rw [resT_eq hs'] at hl
      split at hl
      · rename_i rs hrs
        split at hl
        · simp only [forceNs_eq, forceBos_eq] at hl
          exact Sem.of_code hX' hf.get hf.name hf.body hcode he hrs hl
        · simp at hl
      · simp at hl
    unfold leaveE at h
    split at h
    · rename_i tr' S' hev
      exact fin hev (.inl rfl) h
    · rename_i tr' S' hev
      exact fin hev (.inr rfl) h
    · simp at h
  · simp at h

/-- One call, out of those that it makes. -/
theorem ent_quick {X : Env} (hX : EnvOk X) {md rmd : FuncId → List Bool} {es : List Ent} (ha : AllOk X es) {f : FuncId} {fn : Func} {c : Code} (hf : FnOk X f fn c) {args : List AV} {S0 : List Blk} {r : AV} {S1 : List Blk}
    (h : isEnt ⟨f, args, S0, r, S1⟩ (runBody (tabO es) X md rmd f fn c args S0) = true) : EntOk X ⟨f, args, S0, r, S1⟩ := by
  unfold isEnt at h
  split at h
  · rename_i r' S1' hr
    simp only [Bool.and_eq_true] at h
    have e1 := beqA_ok _ _ h.1
    have e2 := beqBs_ok _ _ h.2
    subst e1; subst e2
    exact runBody_ok hX (tab_ok ha) hf hr
  · simp at h

/-! ### What is known of types, in a trie -/
inductive Tri (α : Type) where
  | lf
  | nd (l : Tri α) (v : Option α) (r : Tri α)

def Tri.get {α : Type} : Tri α → Nat → Option α
  | .lf, _ => none
  | .nd l v r, n => if n = 0 then v else if n % 2 = 1 then l.get (n / 2) else r.get (n / 2 - 1)

/-- Something holds of all that is in it. -/
def Tri.All {α : Type} (p : Nat → α → Prop) : Tri α → (Nat → Nat) → Prop
  | .lf, _ => True
  | .nd l v r, f => (∀ x, v = some x → p (f 0) x) ∧ l.All p (fun n => f (2 * n + 1)) ∧ r.All p (fun n => f (2 * n + 2))

theorem Tri.All.get {α : Type} {p : Nat → α → Prop} : ∀ {t : Tri α} {f : Nat → Nat}, t.All p f → ∀ n x, t.get n = some x → p (f n) x
  | .lf, f, h, n, x, hx => by simp [Tri.get] at hx
  | .nd l v r, f, h, n, x, hx => by
    obtain ⟨h0, hl, hr⟩ := h
    simp only [Tri.get] at hx
    split at hx
    · rename_i hn; subst hn; exact h0 x hx
    · split at hx
      · have := hl.get (n / 2) x hx
        rwa [show 2 * (n / 2) + 1 = n by omega] at this
      · have := hr.get (n / 2 - 1) x hx
        rwa [show 2 * (n / 2 - 1) + 2 = n by omega] at this

theorem Tri.none_all {α : Type} {q : Nat → α → Prop} {n : Nat} : ∀ x, (none : Option α) = some x → q n x := fun x h => by cases h
theorem Tri.some_all {α : Type} {q : Nat → α → Prop} {n : Nat} {y : α} (h : q n y) : ∀ x, some y = some x → q n x := fun x e => by cases e; exact h

def EqP (P : Program) (t : TypeId) (ks : List SK) : Prop := eqTy P t ks = true
def bodyOf (fn : Func) : Code := fn.body.getD .skip
abbrev j (n : Nat) : PV := .v (.int .i64 (.ofNat n))
abbrev u (n : Nat) : PV := .v (.int .u8 (.ofNat n))
abbrev tt : PV := .v (.bool true)
abbrev ff : PV := .v (.bool false)
abbrev n0 : PV := .sl []
abbrev s0 (els : List (List PV)) : PV := .sl els
abbrev J (n : Nat) : AV := .p (.v (.int .i64 (.ofNat n)))
abbrev T : AV := .p (.v (.bool true))
abbrev F : AV := .p (.v (.bool false))
abbrev N0 : AV := .p (.sl [])
abbrev S0 (els : List (List PV)) : AV := .p (.sl els)

theorem tiOk_of {P : Program} {t : TypeId} {ti : TI} (h : tabOf P t = some ti) : TIok P t ti := tabOf_ok P t ti h
end Go.Pl
