/- Operations that leave the world alone, in the plain machine: on whole numbers, texts, bools, errors. -/
import Derived.Test.YtkaaolegkffckaaGreatDoorPlSet
import Derived.Laws.Entries
import Derived.Laws.Concat
import Derived.Laws.StructEq
set_option linter.unusedVariables false
set_option linter.unusedSimpArgs false
namespace Go.Pl

abbrev Tab := TypeId → Option TI
def TabOk (P : Program) (T : Tab) : Prop := ∀ t ti, T t = some ti → TIok P t ti

def aCmp (op : BinOp) (a b : Int) : Option Bool :=
  match op with
  | .eql => some (a == b)
  | .neq => some (a != b)
  | .lss => some (decide (a < b))
  | .leq => some (decide (a ≤ b))
  | .gtr => some (decide (a > b))
  | .geq => some (decide (a ≥ b))
  | _ => none

def aBits (op : BinOp) (k : IntKind) (x y : Int) : Option Int :=
  let a := BitVec.ofInt k.bits x
  let b := BitVec.ofInt k.bits y
  match op with
  | .and => some (k.wrap (a &&& b).toNat)
  | .or => some (k.wrap (a ||| b).toNat)
  | .xor => some (k.wrap (a ^^^ b).toNat)
  | .andNot => some (k.wrap (a &&& ~~~b).toNat)
  | _ => none

def aInt (op : BinOp) (k : IntKind) (a : Int) (k' : IntKind) (b : Int) : Option Value :=
  match op with
  | .shl => if b < 0 then none else some (.int k (k.wrap (a * 2 ^ min b.toNat k.bits)))
  | .shr => if b < 0 then none else some (.int k (a.fdiv (2 ^ min b.toNat k.bits)))
  | .add => if k = k' then some (.int k (k.wrap (a + b))) else none
  | .sub => if k = k' then some (.int k (k.wrap (a - b))) else none
  | .mul => if k = k' then some (.int k (k.wrap (a * b))) else none
  | .quo => if k = k' ∧ b ≠ 0 then some (.int k (k.wrap (a.tdiv b))) else none
  | .rem => if k = k' ∧ b ≠ 0 then some (.int k (a.tmod b)) else none
  | .and | .or | .xor | .andNot => if k = k' then (aBits op k a b).map (.int k) else none
  | _ => if k = k' then (aCmp op a b).map .bool else none

def aStr (op : BinOp) (a b : ByteArray) : Option Value :=
  match op with
  | .add => if a.size + b.size ≤ 9223372036854775807 then some (.string (a ++ b)) else none
  | .eql => some (.bool (a.toList == b.toList))
  | .neq => some (.bool !(a.toList == b.toList))
  | _ => none

theorem aInt_ok {P : Program} {w : World} {op : BinOp} {t : TypeId} {k k' : IntKind} {a b : Int} {v : Value} (h : aInt op k a k' b = some v) :
    (binOp op t (.int k a) (.int k' b)).run P w = .ok v w := by
  cases op <;> simp only [aInt] at h
  case shl | shr =>
    split at h
    · simp at h
    · rename_i hb
      simp at h; subst h
      simp [binOp, Op.shift, hb]
  case add | sub | mul =>
    split at h
    · rename_i hk; subst hk; simp at h; subst h; simp [binOp, Op.intArith]
    · simp at h
  case quo | rem =>
    split at h
    · rename_i hk; obtain ⟨rfl, hb⟩ := hk; simp at h; subst h; simp [binOp, Op.intDiv, hb]
    · simp at h
  case and | or | xor | andNot =>
    split at h
    · rename_i hk; subst hk; simp [aBits] at h; subst h; simp [binOp, Op.intBits]
    · simp at h
  all_goals
    split at h
    · rename_i hk; subst hk; simp [aCmp] at h; try (subst h; simp [binOp, Op.intCmp])
    · simp at h

theorem aStr_ok {P : Program} {w : World} {op : BinOp} {t : TypeId} {a b : ByteArray} {v : Value} (h : aStr op a b = some v) :
    (binOp op t (.string a) (.string b)).run P w = .ok v w := by
  cases op <;> simp only [aStr] at h <;> try (simp at h; done)
  case add =>
    split at h
    · rename_i hl
      simp at h; subst h
      simpa [binOp] using run_string_add_sum (P := P) w a b hl
    · simp at h
  all_goals (simp at h; subst h; simp [binOp, Op.stringOp])

/-- The kinds of a struct's fields, where it is held against another one. -/
inductive SK where
  | b
  | i
  | s
def aEq1 : SK → Value → Value → Option Bool
  | .b, .bool a, .bool b => some (a == b)
  | .i, .int k a, .int k' b => if k = k' then some (a == b) else none
  | .s, .string a, .string b => some (a == b)
  | _, _, _ => none
def aEqs : List SK → List Value → List Value → Option Bool
  | [], [], [] => some true
  | k :: ks, x :: xs, y :: ys => match aEq1 k x y, aEqs ks xs ys with
    | some a, some b => some (a && b)
    | _, _ => none
  | _, _, _ => none

/-- What is known of the struct types that are held against each other. -/
def EqOk (P : Program) (E : TypeId → Option (List SK)) : Prop := ∀ t ks, E t = some ks → ∀ (w : World) (xs ys : List Value) (r : Bool), aEqs ks xs ys = some r →
  (Op.equal t (.agg xs.toArray) (.agg ys.toArray)).run P w = .ok r w ∧ ∀ op x y, (eqGuard op t x y (.agg xs.toArray) (.agg ys.toArray)).run P w = .ok () w

/-- Do a struct's fields have these kinds? -/
def fitsSK (P : Program) : List Field → Nat → List SK → Bool
  | [], _, [] => true
  | f :: fs, n, k :: ks => f.name != "_" && f.offset == n && (match k, P.underlying f.type with
    | .b, some .bool => true
    | .i, some (.int _) => true
    | .s, some .string => true
    | _, _ => false) && fitsSK P fs (n + 1) ks
  | _, _, _ => false

theorem eqFields_ok {P : Program} {w : World} (d : Nat) : ∀ {fs : List Field} {n : Nat} {ks : List SK} {xs ys : List Value} {r : Bool} (xs0 ys0 : List Value), fitsSK P fs n ks = true → aEqs ks xs ys = some r →
    xs0.drop n = xs → ys0.drop n = ys → (Op.eqFields (d + 1) xs0.toArray ys0.toArray fs).run P w = .ok r w
  | [], n, [], [], [], r, xs0, ys0, _, h, _, _ => by simp [aEqs] at h; subst h; simp [Op.eqFields]
  | [], n, [], [], _ :: _, r, xs0, ys0, _, h, _, _ => by simp [aEqs] at h
  | [], n, [], _ :: _, _, r, xs0, ys0, _, h, _, _ => by simp [aEqs] at h
  | [], n, k :: ks, _, _, r, xs0, ys0, hf, _, _, _ => by simp [fitsSK] at hf
  | f :: fs, n, [], _, _, r, xs0, ys0, hf, _, _, _ => by simp [fitsSK] at hf
  | f :: fs, n, k :: ks, [], _, r, xs0, ys0, _, h, _, _ => by simp [aEqs] at h
  | f :: fs, n, k :: ks, _ :: _, [], r, xs0, ys0, _, h, _, _ => by simp [aEqs] at h
  | f :: fs, n, k :: ks, x :: xs, y :: ys, r, xs0, ys0, hf, h, hx, hy => by
    simp only [fitsSK, Bool.and_eq_true, bne_iff_ne, ne_eq, beq_iff_eq] at hf
    obtain ⟨⟨⟨hn, ho⟩, hk⟩, hrest⟩ := hf
    simp only [aEqs] at h
    split at h
    · rename_i a b h1 h2
      simp only [Option.some.injEq] at h; subst h
      have hx0 : xs0[n]? = some x := by rw [← List.head?_drop, hx]; rfl
      have hy0 : ys0[n]? = some y := by rw [← List.head?_drop, hy]; rfl
      have hxs : xs0.drop (n + 1) = xs := by rw [← List.drop_drop, hx]; rfl
      have hys : ys0.drop (n + 1) = ys := by rw [← List.drop_drop, hy]; rfl
      have ih := eqFields_ok (w := w) d xs0 ys0 hrest h2 hxs hys
      have fin : (isAgg f.type).run P w = .ok false w → (Op.equalIn (d + 1) f.type x y).run P w = .ok a w → (Op.eqFields (d + 1) xs0.toArray ys0.toArray (f :: fs)).run P w = .ok (a && b) w := by
        intro ha he
        have px : (part f.type xs0.toArray f.offset).run P w = .ok x w := by simp [part, ha, ho, hx0]
        have py : (part f.type ys0.toArray f.offset).run P w = .ok y w := by simp [part, ha, ho, hy0]
        rw [Op.eqFields]
        simp only [ne_eq, hn, not_false_eq_true, if_true, Sem.run_bind, px, py, he, Result.andThen_ok]
        cases a with
        | false => simp
        | true => simpa using ih
      split at hk
      · rename_i hu
        unfold aEq1 at h1
        split at h1
        · simp only [Option.some.injEq] at h1; subst h1
          exact fin (by simp [isAgg, run_underlying hu]) (by simp [Op.equalIn, run_underlying hu])
        · rename_i hc; cases hc
        · rename_i hc; cases hc
        · simp at h1
      · rename_i k' hu
        unfold aEq1 at h1
        split at h1
        · rename_i hc; cases hc
        · rename_i kk m kk' m2 hc
          split at h1
          · rename_i e
            subst e
            simp only [Option.some.injEq] at h1; subst h1
            exact fin (by simp [isAgg, run_underlying hu]) (by simp [Op.equalIn, run_underlying hu])
          · simp at h1
        · rename_i hc; cases hc
        · simp at h1
      · rename_i hu
        unfold aEq1 at h1
        split at h1
        · rename_i hc; cases hc
        · rename_i hc; cases hc
        · simp only [Option.some.injEq] at h1; subst h1
          exact fin (by simp [isAgg, run_underlying hu]) (by simp [Op.equalIn, run_underlying hu])
        · simp at h1
      · simp at hk
    · simp at h

/-- A struct type of which that is known. -/
def eqTy (P : Program) (t : TypeId) (ks : List SK) : Bool :=
  (match P.underlying t with
    | some (.struct fs) => fitsSK P fs.toList 0 ks
    | _ => false) && (!P.stoodInHeld t && !P.eqGuardType P.depth t)

theorem eqTy_ok {P : Program} {t : TypeId} {ks : List SK} (h : eqTy P t ks = true) (w : World) (xs ys : List Value) (r : Bool) (hr : aEqs ks xs ys = some r) :
    (Op.equal t (.agg xs.toArray) (.agg ys.toArray)).run P w = .ok r w ∧ ∀ op x y, (eqGuard op t x y (.agg xs.toArray) (.agg ys.toArray)).run P w = .ok () w := by
  simp only [eqTy, Bool.and_eq_true, Bool.not_eq_true'] at h
  obtain ⟨h1, h2, h3⟩ := h
  split at h1
  · rename_i fs hu
    have hf : P.fieldsOf t = fs := by simp [Program.fieldsOf, hu]
    refine ⟨?_, fun op x y => run_eqGuard_agg w op t x y _ _ h3⟩
    show (Op.equalIn (9999 + 1) t _ _).run P w = _
    rw [run_equalIn_struct w 9999 t _ _ (by rw [hf]; exact hu) h2, hf]
    exact eqFields_ok 9998 xs ys h1 hr rfl rfl
  · simp at h1

/-- A value without addresses, as the model has it. -/
def flat : AV → Option Value
  | .p (.v x) => some x
  | _ => none
def flats : List AV → Option (List Value)
  | [] => some []
  | x :: xs => match flat x, flats xs with
    | some a, some as => some (a :: as)
    | _, _ => none

theorem flat_ok {w g L} {x : AV} {v u : Value} (h : flat x = some v) (hv : VA w g L x u) : u = v := by
  cases x with
  | p y => cases y with
    | v z => simp [flat] at h; subst h; simpa only [VA, VP] using hv
    | sl => simp [flat] at h
  | _ => simp [flat] at h

theorem flats_ok {w g L} : ∀ {xs : List AV} {vs us : List Value}, flats xs = some vs → VAs w g L xs us → us = vs
  | [], vs, us, h, hv => by simp [flats] at h; subst h; simpa only [VAs] using hv
  | x :: xs, vs, us, h, hv => by
    simp only [flats] at h
    cases h1 : flat x with
    | none => simp [h1] at h
    | some a =>
      cases h2 : flats xs with
      | none => simp [h1, h2] at h
      | some as =>
        simp [h1, h2] at h
        subst h
        simp only [VAs] at hv
        obtain ⟨u, us', rfl, h3, h4⟩ := hv
        rw [flat_ok h1 h3, flats_ok h2 h4]

/-- Is it a nil slice? -/
def aNil : AV → Option Bool
  | .nil b => some b
  | .p (.sl (_ :: _)) => some false
  | .p (.v (.slice a _ _)) => some a.isNone
  | _ => none

def isNilConst : Operand → Bool
  | .const (.slice none 0 0) => true
  | _ => false
def isIfaceConst : Operand → Bool
  | .const .nilIface => true
  | _ => false

def aBin (T : Tab) (E : TypeId → Option (List SK)) (op : BinOp) (t : TypeId) (y : Operand) (a b : AV) : Option Value :=
  if isNilConst y then
    match T t, aNil a, op with
    | some ⟨.slc _, _, _, _⟩, some r, .eql => some (.bool r)
    | some ⟨.slc _, _, _, _⟩, some r, .neq => some (.bool !r)
    | _, _, _ => none
  else if isIfaceConst y then
    match T t, a, op with
    | some ⟨.ifc, _, _, _⟩, .p (.v .nilIface), .eql => some (.bool true)
    | some ⟨.ifc, _, _, _⟩, .p (.v .nilIface), .neq => some (.bool false)
    | some ⟨.ifc, _, _, _⟩, .p (.v (.iface _ _)), .eql => some (.bool false)
    | some ⟨.ifc, _, _, _⟩, .p (.v (.iface _ _)), .neq => some (.bool true)
    | _, _, _ => none
  else match a, b with
    | .p (.v (.int k m)), .p (.v (.int k' n)) => aInt op k m k' n
    | .p (.v (.string s)), .p (.v (.string s')) => aStr op s s'
    | .p (.v (.bool m)), .p (.v (.bool n)) => (match T t, op with
      | some ⟨.bool, _, _, _⟩, .eql => some (.bool (m == n))
      | some ⟨.bool, _, _, _⟩, .neq => some (.bool !(m == n))
      | _, _ => none)
    | .agg xs, .agg ys => (match flats xs, flats ys with
      | some us, some vs => (match E t with
        | some ks => (match aEqs ks us vs, op with
          | some r, .eql => some (.bool r)
          | some r, .neq => some (.bool !r)
          | _, _ => none)
        | none => none)
      | _, _ => none)
    | _, _ => none

theorem TIok.ifc {P t ti} (h : TIok P t ti) (he : ti.td = .ifc) : ∃ ms, P.underlying t = some (.interface ms) := by
  obtain ⟨d, hd, h2⟩ := h.und
  rw [he] at h2
  cases d <;> simp [tdOf] at h2
  exact ⟨_, hd⟩
theorem TIok.bool {P t ti} (h : TIok P t ti) (he : ti.td = .bool) : P.underlying t = some .bool := by
  obtain ⟨d, hd, h2⟩ := h.und
  rw [he] at h2
  cases d <;> simp [tdOf] at h2
  exact hd

theorem eqGuard_plain {P : Program} {w : World} (op : BinOp) (t : TypeId) (x y : Operand) (a b : Value) (h1 : a = .nilIface → b = .nilIface → isIfaceConst y = true) (h2 : ∀ xs, a ≠ .agg xs) : (eqGuard op t x y a b).run P w = .ok () w := by
  unfold eqGuard
  cases op <;> try (simp; done)
  all_goals
    cases a <;> try (cases b <;> simp; done)
    case agg xs => exact (h2 xs rfl).elim
    case nilIface =>
      cases b <;> try (simp; done)
      have := h1 rfl rfl
      cases y with
      | const v => simp
      | _ => simp [isIfaceConst] at this

theorem aNil_ok {w g L} {x : AV} {r : Bool} {u : Value} (h : aNil x = some r) (hv : VA w g L x u) : ∃ a l c, u = .slice a l c ∧ r = a.isNone := by
  cases x with
  | nil b =>
    simp [aNil] at h; subst h
    simp only [VA] at hv
    obtain ⟨a, rfl, hb⟩ := hv
    refine ⟨a, 0, 0, rfl, ?_⟩
    cases a <;> cases b <;> simp at hb ⊢
  | p y =>
    cases y with
    | sl els =>
      cases els with
      | nil => simp [aNil] at h
      | cons e els =>
        simp [aNil] at h; subst h
        simp only [VA, VP] at hv
        obtain ⟨a, cap, rfl, _, hx⟩ := hv
        rcases hx with hx | ⟨k, o, rfl, _⟩
        · simp at hx
        · exact ⟨_, _, _, rfl, rfl⟩
    | v x =>
      cases x with
      | slice a l c =>
        simp [aNil] at h; subst h
        simp only [VA, VP] at hv
        subst hv
        exact ⟨a, l, c, rfl, rfl⟩
      | _ => simp [aNil] at h
  | _ => simp [aNil] at h

section
variable {P : Program} {w : World}
theorem eqIn_slc (d : Nat) {t e : TypeId} (h : P.underlying t = some (.slice e)) (a : Option Addr) (l c : Nat) : (Op.equalIn (d + 1) t (.slice a l c) (.slice none 0 0)).run P w = .ok a.isNone w := by
  cases a <;> simp [Op.equalIn, run_underlying h]
theorem eqIn_ifc1 (d : Nat) {t : TypeId} {ms} (h : P.underlying t = some (.interface ms)) : (Op.equalIn (d + 1) t .nilIface .nilIface).run P w = .ok true w := by
  simp [Op.equalIn, run_underlying h]
theorem eqIn_ifc2 (d : Nat) {t : TypeId} {ms} (h : P.underlying t = some (.interface ms)) (x : TypeId) (v : Value) : (Op.equalIn (d + 1) t (.iface x v) .nilIface).run P w = .ok false w := by
  simp [Op.equalIn, run_underlying h]
theorem eqIn_bool (d : Nat) {t : TypeId} (h : P.underlying t = some .bool) (a b : Bool) : (Op.equalIn (d + 1) t (.bool a) (.bool b)).run P w = .ok (a == b) w := by
  simp [Op.equalIn, run_underlying h]
theorem eq_of {t : TypeId} {x y : Value} {r : Bool} (h : (Op.equalIn (9999 + 1) t x y).run P w = .ok r w) : (Op.equal t x y).run P w = .ok r w := h
end

theorem aBin_ok {P : Program} {T : Tab} {E : TypeId → Option (List SK)} (hT : TabOk P T) (hE : EqOk P E) {w : World} {g : Gh} {L : Nat → Blk} {op : BinOp} {t : TypeId} {x y : Operand} {a b : AV} {va vb v : Value}
    (h : aBin T E op t y a b = some v) (ha : VA w g L a va) (hb : VA w g L b vb) (hy : ∀ c, y = .const c → vb = c) :
    (do eqGuard op t x y va vb; binOp op t va vb : Sem Value).run P w = .ok v w := by
  unfold aBin at h
  split at h
  · rename_i hn
    obtain rfl : vb = .slice none 0 0 := by
      cases y with
      | const c =>
        have := hy c rfl
        subst this
        unfold isNilConst at hn
        split at hn
        · rename_i he; simpa using he
        · simp at hn
      | _ => simp [isNilConst] at hn
    have hg : ∀ u, (∃ a l c, u = Value.slice a l c) → (eqGuard op t x y u (.slice none 0 0)).run P w = .ok () w := by
      rintro u ⟨a, l, c, rfl⟩
      exact eqGuard_plain op t x y _ _ (by simp) (by simp)
    split at h
    · rename_i e s b z r hTt hr
      obtain ⟨aa, l, c, rfl, rfl⟩ := aNil_ok hr ha
      have hu := (hT t _ hTt).slc (e := e) rfl
      simp at h; subst h
      simp [hg _ ⟨aa, l, c, rfl⟩, binOp, eq_of (eqIn_slc (P := P) (w := w) 9999 hu aa l c)]
    · rename_i e s b z r hTt hr
      obtain ⟨aa, l, c, rfl, rfl⟩ := aNil_ok hr ha
      have hu := (hT t _ hTt).slc (e := e) rfl
      simp at h; subst h
      simp [hg _ ⟨aa, l, c, rfl⟩, binOp, eq_of (eqIn_slc (P := P) (w := w) 9999 hu aa l c)]
    · simp at h
  · split at h
    · rename_i hn hi
      obtain rfl : vb = .nilIface := by
        cases y with
        | const c =>
          have := hy c rfl
          subst this
          unfold isIfaceConst at hi
          split at hi
          · rename_i he; simpa using he
          · simp at hi
        | _ => simp [isIfaceConst] at hi
      have hg : ∀ u, (∀ xs, u ≠ Value.agg xs) → (eqGuard op t x y u .nilIface).run P w = .ok () w := fun u hu => eqGuard_plain op t x y _ _ (fun _ _ => hi) hu
      split at h <;> first | (simp at h; done) | skip
      all_goals
        rename_i s bb z hTt
        obtain ⟨ms, hu⟩ := (hT t _ hTt).ifc rfl
        simp only [VA, VP] at ha
        subst ha
        simp at h; subst h
        have g1 := hg .nilIface (by simp)
        have g2 := fun a b => hg (.iface a b) (by simp)
        simp [g1, g2, binOp, eq_of (eqIn_ifc1 (P := P) (w := w) _ hu), fun a b => eq_of (eqIn_ifc2 (P := P) (w := w) 9999 hu a b)]
    · rename_i hn hi
      have hg : ∀ u v, (u ≠ .nilIface) → (∀ xs, u ≠ Value.agg xs) → (eqGuard op t x y u v).run P w = .ok () w := fun u v h1 hu => eqGuard_plain op t x y _ _ (fun e => (h1 e).elim) hu
      split at h
      · simp only [VA, VP] at ha hb
        subst ha hb
        simp [hg (.int _ _) _ (by simp) (by simp), aInt_ok h]
      · simp only [VA, VP] at ha hb
        subst ha hb
        simp [hg (.string _) _ (by simp) (by simp), aStr_ok h]
      · simp only [VA, VP] at ha hb
        subst ha hb
        split at h
        · rename_i hTt
          have hu := (hT t _ hTt).bool rfl
          simp at h; subst h
          simp [hg (.bool _) _ (by simp) (by simp), binOp, fun a b => eq_of (eqIn_bool (P := P) (w := w) 9999 hu a b)]
        · rename_i hTt
          have hu := (hT t _ hTt).bool rfl
          simp at h; subst h
          simp [hg (.bool _) _ (by simp) (by simp), binOp, fun a b => eq_of (eqIn_bool (P := P) (w := w) 9999 hu a b)]
        · simp at h
      · rename_i xs ys
        split at h
        · rename_i us vs hf1 hf2
          simp only [VA] at ha hb
          obtain ⟨us', rfl, ha⟩ := ha
          obtain ⟨vs', rfl, hb⟩ := hb
          obtain rfl := flats_ok hf1 ha
          obtain rfl := flats_ok hf2 hb
          split at h
          · rename_i ks hEt
            split at h
            · rename_i r hr
              obtain ⟨h1, h2⟩ := hE t ks hEt w us' vs' r hr
              simp at h; subst h
              simp [h2, binOp, h1]
            · rename_i r hr
              obtain ⟨h1, h2⟩ := hE t ks hEt w us' vs' r hr
              simp at h; subst h
              simp [h2, binOp, h1]
            · simp at h
          · simp at h
        · simp at h
      · simp at h

end Go.Pl
