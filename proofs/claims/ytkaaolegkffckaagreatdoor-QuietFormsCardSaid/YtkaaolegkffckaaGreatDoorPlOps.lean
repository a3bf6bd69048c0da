/- The operations of the plain machine. -/
import Derived.Test.YtkaaolegkffckaaGreatDoorPlPure
import Derived.ArgAppend
set_option linter.unusedVariables false
set_option linter.unusedSimpArgs false
namespace Go.Pl

/-- What the plain machine knows of a program. -/
structure Env where
  P : Program
  T : Tab
  E : TypeId → Option (List SK)
  Gl : Nat → Option (List PV)
  nest : Bool := false
  kp : FuncId → Bool := fun _ => false

structure EnvOk (X : Env) : Prop where
  T : TabOk X.P X.T
  E : EqOk X.P X.E
  mixed : X.P.follows .mixedOrders = true

/-- The variables of the program that are never written hold what is known of them. -/
def GlOk (X : Env) (w : World) (st : Nat → Nat → Prop) : Prop := ∀ i cs, X.Gl i = some cs → VCs w st cs i 0

theorem GlOk.keep {X w st w' st'} (h : GlOk X w st) (k : Keep w st w' st') : GlOk X w' st' := fun i cs hi => VCs.keep k cs i 0 (h i cs hi)

def cst1 : Value → AV
  | .slice none 0 0 => .nil true
  | .func (.func f) ⟨[]⟩ ⟨[]⟩ => .clo f []
  | x => .p (.v x)
/-- A constant. -/
def cst : Value → AV
  | .agg cs => .agg (cs.toList.map cst1)
  | .tuple cs => .tup (cs.toList.map cst1)
  | x => cst1 x

section
variable {w : World} {g : Gh} {L : Nat → Blk}
theorem cst1_ok (v : Value) : VA w g L (cst1 v) v := by
  unfold cst1
  split
  · simp only [VA]; exact ⟨none, rfl, by simp⟩
  · simp only [VA, VAs]; exact ⟨[], rfl, rfl⟩
  · simp only [VA, VP]
theorem cst1s_ok : ∀ vs : List Value, VAs w g L (vs.map cst1) vs
  | [] => by simp only [List.map_nil, VAs]
  | v :: vs => by simp only [List.map_cons, VAs]; exact ⟨v, vs, rfl, cst1_ok v, cst1s_ok vs⟩
theorem cst_ok (v : Value) : VA w g L (cst v) v := by
  unfold cst
  split
  · rename_i cs; simp only [VA]; exact ⟨cs.toList, by simp, cst1s_ok _⟩
  · rename_i cs; simp only [VA]; exact ⟨cs.toList, by simp, cst1s_ok _⟩
  · exact cst1_ok v
end

def undefA : AV := .tup []

def aEval (X : Env) (tm : List AV) : Operand → AV
  | .tmp t => tm.getD t undefA
  | .const v => cst v
  | .global i => match X.Gl i with
    | some cs => .rp cs
    | none => .p (.v (.pointer (some ⟨i, 0, none⟩)))
  | .func f => .clo f []

/-- The temporaries, cell by cell. -/
def TmOk (w : World) (g : Gh) (L : Nat → Blk) (tm : List AV) (a : Array Value) : Prop := VAs w g L tm a.toList

theorem TmOk.ev {w g L w' g' L'} (h : Ev w g L w' g' L') {tm a} (ht : TmOk w g L tm a) : TmOk w' g' L' tm a := VAs.ev h _ _ ht

theorem getD_ok {w g L tm} {a : Array Value} (ht : TmOk w g L tm a) (t : Nat) : VA w g L (tm.getD t undefA) (a.getD t undef) := by
  have hl : a.toList.length = tm.length := VAs_len ht
  by_cases h : t < tm.length
  · obtain ⟨u, hu, hv⟩ := VAs_get ht t tm[t] (by simp [h])
    rw [List.getD_eq_getElem?_getD, List.getElem?_eq_getElem h]
    have hs : t < a.size := by
      have : a.size = tm.length := by simpa using hl
      omega
    have : a.getD t undef = u := by
      simp [hs] at hu
      simp [Array.getD, hs, hu]
    rw [this]; exact hv
  · have hs : ¬ t < a.size := by
      have : a.size = tm.length := by simpa using hl
      omega
    rw [List.getD_eq_getElem?_getD, List.getElem?_eq_none (by omega)]
    have : a.getD t undef = undef := by simp [Array.getD, hs]
    rw [this]
    simp only [Option.getD_none, undefA, VA, VAs]
    exact ⟨[], rfl, rfl⟩

theorem eval_ok {X : Env} {w g L tm} {a : Act} (ht : TmOk w g L tm a.tmps) (hg : GlOk X w g.st) (x : Operand) : VA w g L (aEval X tm x) (a.eval x) := by
  cases x with
  | tmp t => exact getD_ok ht t
  | const v => exact cst_ok v
  | global i =>
    simp only [aEval, Act.eval]
    cases h : X.Gl i with
    | none => simp only [VA, VP]
    | some cs => simp only [VA]; exact ⟨i, 0, rfl, hg i cs h⟩
  | func f => simp only [aEval, Act.eval, VA, VAs]; exact ⟨[], rfl, rfl⟩

/-- Is it a pointer that holds? -/
def ptrOk (L : Nat → Blk) : AV → Bool
  | .bp b _ => match L b with | .box _ => true | _ => false
  | .ep b ver _ _ => match L b with | .arr _ v _ _ => ver == v | _ => false
  | .rp _ => true
  | _ => false

def addPtr (n : Nat) : AV → Option AV
  | .bp b off => some (.bp b (off + n))
  | .ep b ver i off => some (.ep b ver i (off + n))
  | .rp cs => if n ≤ cs.length then some (.rp (cs.drop n)) else none
  | _ => none

section
variable {P : Program} {w : World} {g : Gh} {L : Nat → Blk}

theorem VCs_drop {st : Nat → Nat → Prop} : ∀ {cs : List PV} {k o : Nat} (n : Nat), n ≤ cs.length → VCs w st cs k o → VCs w st (cs.drop n) k (o + n)
  | _, _, _, 0, _, h => by simpa using h
  | [], _, _, n + 1, hn, _ => by simp at hn
  | c :: cs, k, o, n + 1, hn, h => by
    simp only [VCs] at h
    have := VCs_drop n (by simpa using hn) h.2.2
    rwa [show o + 1 + n = o + (n + 1) by omega] at this

theorem ptrOk_ok {x : AV} {u : Value} (h : ptrOk L x = true) (hv : VA w g L x u) : ∃ k o, u = .pointer (some ⟨k, o, none⟩) ∧ ∀ n y, addPtr n x = some y → VA w g L y (.pointer (some ⟨k, o + n, none⟩)) := by
  cases x with
  | bp b off =>
    simp only [VA] at hv
    simp only [ptrOk] at h
    cases hL : L b with
    | box cells =>
      simp only [hL] at hv
      obtain ⟨_, k, n, hm, rfl⟩ := hv
      refine ⟨k, off, rfl, fun m y hy => ?_⟩
      simp [addPtr] at hy; subst hy
      simp only [VA, hL]
      exact ⟨⟨_, rfl⟩, k, n, hm, rfl⟩
    | none => simp [hL] at h
    | dead => simp [hL] at h
    | arr => simp [hL] at h
    | it => simp [hL] at h
  | ep b ver i off =>
    simp only [VA] at hv
    simp only [ptrOk] at h
    cases hL : L b with
    | arr fz v es els =>
      simp only [hL] at hv h
      have he : ver = v := by simpa using h
      obtain ⟨_, hle, hx⟩ := hv
      obtain ⟨k, o, n, hm, rfl⟩ := hx he
      refine ⟨k, _, rfl, fun m y hy => ?_⟩
      simp [addPtr] at hy; subst hy
      simp only [VA, hL]
      exact ⟨⟨_, rfl⟩, hle, fun _ => ⟨k, o, n, hm, by simp [Nat.add_assoc]⟩⟩
    | none => simp [hL] at h
    | dead => simp [hL] at h
    | box => simp [hL] at h
    | it => simp [hL] at h
  | rp cs =>
    simp only [VA] at hv
    obtain ⟨k, o, rfl, hc⟩ := hv
    refine ⟨k, o, rfl, fun m y hy => ?_⟩
    simp only [addPtr] at hy
    split at hy
    · rename_i hm
      simp at hy; subst hy
      simp only [VA]
      exact ⟨k, o + m, rfl, VCs_drop m hm hc⟩
    · simp at hy
  | _ => simp [ptrOk] at h
end

/-! ### Field and element addresses -/
def aField (T : Tab) (L : Nat → Blk) (s f : Nat) (x : AV) : Option AV :=
  match T s with
  | some ⟨.stc fs, _, _, _⟩ => (match fs[f]? with
    | some (off, ty) => (match T ty with
      | some ti => if ti.size ≠ 0 ∧ ptrOk L x = true then addPtr off x else none
      | none => none)
    | none => none)
  | _ => none

theorem aField_ok {P : Program} {T : Tab} (hT : TabOk P T) {w : World} {g : Gh} {L : Nat → Blk} {s f : Nat} {x y : AV} {u : Value} (h : aField T L s f x = some y) (hv : VA w g L x u) :
    ∃ v, (Instr.fieldAt s u f).run P w = .ok v w ∧ VA w g L y v := by
  unfold aField at h
  split at h
  · rename_i fs sz by_ z hTs
    obtain ⟨as, hu, hfs⟩ := (hT s _ hTs).stc rfl
    split at h
    · rename_i off ty hf
      split at h
      · rename_i ti hty
        split at h
        · rename_i hc
          obtain ⟨k, o, rfl, hp⟩ := ptrOk_ok hc.2 hv
          refine ⟨_, ?_, hp off y h⟩
          have hfa : ∃ fl, as[f]? = some fl ∧ fl.offset = off ∧ fl.type = ty := by
            rw [← hfs] at hf
            simp only [List.getElem?_map, Option.map_eq_some_iff, Array.getElem?_toList] at hf
            obtain ⟨fl, h1, h2⟩ := hf
            simp at h2
            exact ⟨fl, h1, h2.1, h2.2⟩
          obtain ⟨fl, h1, rfl, rfl⟩ := hfa
          have hsz := (hT _ _ hty).size_run w
          simp [Instr.fieldAt, run_underlying hu, h1, Instr.sureAddr, fieldPlace, hsz, hc.1, add_lit']
        · simp at h
      · simp at h
    · simp at h
  · simp at h

/-- The number that an index is. -/
def asNat : AV → Option Nat
  | .p (.v (.int _ n)) => if 0 ≤ n then some n.toNat else none
  | _ => none

theorem asNat_ok {w g L} {x : AV} {i : Nat} {u : Value} (h : asNat x = some i) (hv : VA w g L x u) : ∃ k, u = .int k (i : Int) := by
  unfold asNat at h
  split at h
  · rename_i k n
    split at h
    · simp at h
      simp only [VA, VP] at hv
      refine ⟨k, ?_⟩
      rw [hv, ← h]
      congr 1
      omega
    · simp at h
  · simp at h

def uni {α : Type} (n : Nat) (els : List (List α)) : Bool := els.all fun e => e.length == n

theorem uni_ok {α : Type} {n : Nat} {els : List (List α)} (h : uni n els = true) : ∀ e ∈ els, e.length = n := by
  intro e he
  have := List.all_eq_true.1 h e he
  simpa using this

theorem VEs_get {w : World} {st : Nat → Nat → Prop} {n : Nat} : ∀ {els : List (List PV)} {k o : Nat}, (∀ e ∈ els, e.length = n) → VEs w st els k o → ∀ (i : Nat) e, els[i]? = some e → VCs w st e k (o + i * n)
  | [], _, _, _, _, i, e, he => by simp at he
  | x :: els, k, o, hu, h, i, e, he => by
    simp only [VEs] at h
    have hx := hu x (by simp)
    cases i with
    | zero => simp at he; subst he; simpa using h.1
    | succ i =>
      have := VEs_get (fun y hy => hu y (by simp [hy])) h.2 i e (by simpa using he)
      rwa [hx, show o + n + i * n = o + (i + 1) * n by rw [Nat.add_mul]; omega] at this

theorem VEs_drop {w : World} {st : Nat → Nat → Prop} {n : Nat} : ∀ {els : List (List PV)} {k o : Nat} (i : Nat), i ≤ els.length → (∀ e ∈ els, e.length = n) → VEs w st els k o → VEs w st (els.drop i) k (o + i * n)
  | _, _, _, 0, _, _, h => by simpa using h
  | [], _, _, i + 1, hi, _, _ => by simp at hi
  | x :: els, k, o, i + 1, hi, hu, h => by
    simp only [VEs] at h
    have hx := hu x (by simp)
    have := VEs_drop i (by simpa using hi) (fun y hy => hu y (by simp [hy])) h.2
    rw [List.drop_succ_cons]
    rwa [hx, show o + n + i * n = o + (i + 1) * n by rw [Nat.add_mul]; omega] at this

theorem VEs_take {w : World} {st : Nat → Nat → Prop} : ∀ {els : List (List PV)} {k o : Nat} (i : Nat), VEs w st els k o → VEs w st (els.take i) k o
  | _, _, _, 0, _ => by simp only [List.take_zero, VEs]
  | [], _, _, i + 1, _ => by simp only [List.take_nil, VEs]
  | x :: els, k, o, i + 1, h => by
    simp only [VEs] at h
    simp only [List.take_succ_cons, VEs]
    exact ⟨h.1, VEs_take i h.2⟩

def aIndexAddr (T : Tab) (L : Nat → Blk) (t : TypeId) (x : AV) (i : AV) : Option AV :=
  match T t, asNat i with
  | some ⟨.slc e, _, _, _⟩, some i => (match T e with
    | some ti => (match x with
      | .p (.sl els) => if uni ti.size els = true then (match els[i]? with | some c => some (.rp c) | none => none) else none
      | .own b ver off len => (match L b with
        | .arr _ v es els => if ver = v ∧ es = ti.size ∧ i < len then some (.ep b ver (off + i) 0) else none
        | _ => none)
      | _ => none)
    | none => none)
  | some ⟨.arr n e, _, _, _⟩, some i => (match T e with
    | some ti => if i < n ∧ ptrOk L x = true then addPtr (i * ti.size) x else none
    | none => none)
  | _, _ => none

theorem aIndexAddr_ok {P : Program} {T : Tab} (hT : TabOk P T) {w : World} {g : Gh} {L : Nat → Blk} (r : Rel w g L) {t : TypeId} {x i y : AV} {u ui : Value} (h : aIndexAddr T L t x i = some y) (hv : VA w g L x u) (hi : VA w g L i ui) :
    ∃ v, (Instr.indexAt t u ui).run P w = .ok v w ∧ VA w g L y v := by
  unfold aIndexAddr at h
  split at h
  · rename_i e sz by_ z i' hTt hn
    have hu := (hT t _ hTt).slc (e := e) rfl
    obtain ⟨k, rfl⟩ := asNat_ok hn hi
    split at h
    · rename_i ti hte
      have hsz := (hT _ _ hte).size_run w
      split at h
      · rename_i els
        split at h
        · rename_i hun
          split at h
          · rename_i c hc
            simp at h; subst h
            simp only [VA, VP] at hv
            obtain ⟨a, cap, rfl, _, hx⟩ := hv
            have hil : i' < els.length := (List.getElem?_eq_some_iff.1 hc).1
            rcases hx with rfl | ⟨k', o, rfl, hx⟩
            · simp at hil
            · refine ⟨.pointer (some ⟨k', o + i' * ti.size, none⟩), ?_, ?_⟩
              · simp [Instr.indexAt, asIntOf, run_underlying hu, hil, hsz, add_lit']
              · simp only [VA]; exact ⟨k', _, rfl, VEs_get (uni_ok hun) hx i' c hc⟩
          · simp at h
        · simp at h
      · rename_i b ver off len
        split at h
        · rename_i v es els hL
          split at h
          · rename_i hc
            obtain ⟨rfl, rfl, hil⟩ := hc
            simp at h; subst h
            simp only [VA, hL] at hv
            obtain ⟨_, hle, hx⟩ := hv
            have hx := hx trivial
            cases hm : g.m b with
            | none => simp only [hm] at hx; omega
            | some tt =>
              obtain ⟨k', o, n⟩ := tt
              simp only [hm] at hx
              obtain ⟨hon, a, rfl, ha⟩ := hx
              obtain rfl := ha (by omega)
              refine ⟨.pointer (some ⟨k', o + (off + i') * ti.size, none⟩), ?_, ?_⟩
              · simp [Instr.indexAt, asIntOf, run_underlying hu, hil, hsz, add_lit', Nat.add_mul, Nat.add_assoc]
              · simp only [VA, hL]; exact ⟨⟨_, rfl⟩, hle, fun _ => ⟨k', o, n, hm, rfl⟩⟩
          · simp at h
        · simp at h
      · simp at h
    · simp at h
  · rename_i n e sz by_ z i' hTt hn
    have hu := (hT t _ hTt).arr (n := n) (e := e) rfl
    obtain ⟨k, rfl⟩ := asNat_ok hn hi
    split at h
    · rename_i ti hte
      have hsz := (hT _ _ hte).size_run w
      split at h
      · rename_i hc
        obtain ⟨k', o, rfl, hp⟩ := ptrOk_ok hc.2 hv
        refine ⟨_, ?_, hp _ y h⟩
        simp [Instr.indexAt, asIntOf, run_underlying hu, Instr.sureAddr, hc.1, hsz, add_lit']
      · simp at h
    · simp at h
  · simp at h

end Go.Pl
