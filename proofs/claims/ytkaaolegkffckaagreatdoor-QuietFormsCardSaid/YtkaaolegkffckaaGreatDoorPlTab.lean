/- Calls that are known, as a table. -/
import Derived.Test.YtkaaolegkffckaaGreatDoorPlPrim
set_option linter.unusedVariables false
set_option linter.unusedSimpArgs false
namespace Go.Pl

def beqV0 : Value → Value → Bool
  | .bool a, .bool b => a == b
  | .int k m, .int l n => decide (k = l) && decide (m = n)
  | .string s, .string t => decide (s.data.toList = t.data.toList)
  | _, _ => false

theorem beqV0_ok {a b : Value} (h : beqV0 a b = true) : a = b := by
  unfold beqV0 at h
  split at h
  · simp at h; rw [h]
  · simp at h; rw [h.1, h.2]
  · rename_i s t
    simp only [decide_eq_true_eq] at h
    obtain ⟨⟨s⟩⟩ := s
    obtain ⟨⟨t⟩⟩ := t
    simp at h
    rw [h]
  · simp at h

def beqVs0 : List Value → List Value → Bool
  | [], [] => true
  | x :: xs, y :: ys => beqV0 x y && beqVs0 xs ys
  | _, _ => false
theorem beqVs0_ok : ∀ {x y : List Value}, beqVs0 x y = true → x = y
  | [], [], _ => rfl
  | [], _ :: _, h => by simp [beqVs0] at h
  | _ :: _, [], h => by simp [beqVs0] at h
  | x :: xs, y :: ys, h => by simp only [beqVs0, Bool.and_eq_true] at h; rw [beqV0_ok h.1, beqVs0_ok h.2]

def beqV1 : Value → Value → Bool
  | .agg ⟨xs⟩, .agg ⟨ys⟩ => beqVs0 xs ys
  | x, y => beqV0 x y

theorem beqV1_ok {a b : Value} (h : beqV1 a b = true) : a = b := by
  unfold beqV1 at h
  split at h
  · rw [beqVs0_ok h]
  · exact beqV0_ok h

def beqV : Value → Value → Bool
  | .nilIface, .nilIface => true
  | .iface t x, .iface u y => decide (t = u) && beqV1 x y
  | .pointer none, .pointer none => true
  | .func (.func f) ⟨[]⟩ ⟨[]⟩, .func (.func g) ⟨[]⟩ ⟨[]⟩ => decide (f = g)
  | x, y => beqV1 x y

theorem beqV_ok {a b : Value} (h : beqV a b = true) : a = b := by
  unfold beqV at h
  split at h
  · rfl
  · simp at h; rw [h.1, beqV1_ok h.2]
  · rfl
  · simp at h; rw [h]
  · exact beqV1_ok h

mutual
def beqP : PV → PV → Bool
  | .v x, .v y => beqV x y
  | .sl xs, .sl ys => beqPss xs ys
  | _, _ => false
def beqPs : List PV → List PV → Bool
  | [], [] => true
  | x :: xs, y :: ys => beqP x y && beqPs xs ys
  | _, _ => false
def beqPss : List (List PV) → List (List PV) → Bool
  | [], [] => true
  | x :: xs, y :: ys => beqPs x y && beqPss xs ys
  | _, _ => false
end

mutual
theorem beqP_ok : ∀ (x y : PV), beqP x y = true → x = y
  | .v x, .v y, h => by simp only [beqP] at h; rw [beqV_ok h]
  | .sl xs, .sl ys, h => by simp only [beqP] at h; rw [beqPss_ok xs ys h]
  | .v x, .sl ys, h => by simp [beqP] at h
  | .sl xs, .v y, h => by simp [beqP] at h
theorem beqPs_ok : ∀ (x y : List PV), beqPs x y = true → x = y
  | [], [], _ => rfl
  | x :: xs, y :: ys, h => by simp only [beqPs, Bool.and_eq_true] at h; rw [beqP_ok x y h.1, beqPs_ok xs ys h.2]
  | [], _ :: _, h => by simp [beqPs] at h
  | _ :: _, [], h => by simp [beqPs] at h
theorem beqPss_ok : ∀ (x y : List (List PV)), beqPss x y = true → x = y
  | [], [], _ => rfl
  | x :: xs, y :: ys, h => by simp only [beqPss, Bool.and_eq_true] at h; rw [beqPs_ok x y h.1, beqPss_ok xs ys h.2]
  | [], _ :: _, h => by simp [beqPss] at h
  | _ :: _, [], h => by simp [beqPss] at h
end

mutual
def beqA : AV → AV → Bool
  | .p x, .p y => beqP x y
  | .own a b c d, .own a' b' c' d' => a == a' && (b == b' && (c == c' && d == d'))
  | .nil a, .nil b => a == b
  | .bp a b, .bp c d => a == c && b == d
  | .ep a b c d, .ep a' b' c' d' => a == a' && (b == b' && (c == c' && d == d'))
  | .rp xs, .rp ys => beqPs xs ys
  | .clo f xs, .clo g ys => decide (f = g) && beqAs xs ys
  | .agg xs, .agg ys => beqAs xs ys
  | .tup xs, .tup ys => beqAs xs ys
  | _, _ => false
def beqAs : List AV → List AV → Bool
  | [], [] => true
  | x :: xs, y :: ys => beqA x y && beqAs xs ys
  | _, _ => false
end

mutual
theorem beqA_ok : ∀ (x y : AV), beqA x y = true → x = y
  | .p x, y, h => by cases y <;> simp [beqA] at h; rw [beqP_ok _ _ h]
  | .own .., y, h => by cases y <;> simp [beqA] at h; obtain ⟨rfl, rfl, rfl, rfl⟩ := h; rfl
  | .nil _, y, h => by cases y <;> simp [beqA] at h; rw [h]
  | .bp .., y, h => by cases y <;> simp [beqA] at h; rw [h.1, h.2]
  | .ep .., y, h => by cases y <;> simp [beqA] at h; obtain ⟨rfl, rfl, rfl, rfl⟩ := h; rfl
  | .rp _, y, h => by cases y <;> simp [beqA] at h; rw [beqPs_ok _ _ h]
  | .any, y, h => by cases y <;> simp [beqA] at h
  | .clo f xs, y, h => by cases y <;> simp [beqA] at h; rw [h.1, beqAs_ok xs _ h.2]
  | .agg xs, y, h => by cases y <;> simp [beqA] at h; rw [beqAs_ok xs _ h]
  | .tup xs, y, h => by cases y <;> simp [beqA] at h; rw [beqAs_ok xs _ h]
theorem beqAs_ok : ∀ (x y : List AV), beqAs x y = true → x = y
  | [], y, h => by cases y <;> simp [beqAs] at h; rfl
  | x :: xs, y, h => by
    cases y with
    | nil => simp [beqAs] at h
    | cons y ys => simp only [beqAs, Bool.and_eq_true] at h; rw [beqA_ok x y h.1, beqAs_ok xs ys h.2]
end

def beqAss : List (List AV) → List (List AV) → Bool
  | [], [] => true
  | x :: xs, y :: ys => beqAs x y && beqAss xs ys
  | _, _ => false
theorem beqAss_ok : ∀ (x y : List (List AV)), beqAss x y = true → x = y
  | [], y, h => by cases y <;> simp [beqAss] at h; rfl
  | x :: xs, y, h => by
    cases y with
    | nil => simp [beqAss] at h
    | cons y ys => simp only [beqAss, Bool.and_eq_true] at h; rw [beqAs_ok x y h.1, beqAss_ok xs ys h.2]

theorem bytes_ext {s t : ByteArray} (h : s.data.toList = t.data.toList) : s = t := by
  obtain ⟨⟨s⟩⟩ := s
  obtain ⟨⟨t⟩⟩ := t
  simp at h
  rw [h]

def beqB : Blk → Blk → Bool
  | .none, .none => true
  | .dead, .dead => true
  | .arr f a b xs, .arr g c d ys => f == g && (a == c && (b == d && beqAss xs ys))
  | .box xs, .box ys => beqAs xs ys
  | .it s p, .it t q => decide (s.data.toList = t.data.toList) && p == q
  | _, _ => false
def beqBs : List Blk → List Blk → Bool
  | [], [] => true
  | x :: xs, y :: ys => beqB x y && beqBs xs ys
  | _, _ => false

theorem beqB_ok (x y : Blk) (h : beqB x y = true) : x = y := by
  cases x <;> cases y <;> simp [beqB] at h
  · rfl
  · rfl
  · obtain ⟨rfl, rfl, rfl, h⟩ := h; rw [beqAss_ok _ _ h]
  · rw [beqAs_ok _ _ h]
  · rw [bytes_ext (congrArg Array.toList h.1), h.2]
theorem beqBs_ok : ∀ (x y : List Blk), beqBs x y = true → x = y
  | [], y, h => by cases y <;> simp [beqBs] at h; rfl
  | x :: xs, y, h => by
    cases y with
    | nil => simp [beqBs] at h
    | cons y ys => simp only [beqBs, Bool.and_eq_true] at h; rw [beqB_ok x y h.1, beqBs_ok xs ys h.2]

/-- A known call. -/
structure Ent where
  f : FuncId
  args : List AV
  S0 : List Blk
  r : AV
  S1 : List Blk

def EntOk (X : Env) (e : Ent) : Prop := Sem X e.f e.args e.S0 e.r e.S1

def tabO : List Ent → Orc
  | [], _, _, _ => none
  | e :: es, f, args, S0 => if Nat.beq e.f f && (beqAs e.args args && beqBs e.S0 S0) then some (e.r, e.S1) else tabO es f args S0

def AllOk (X : Env) : List Ent → Prop
  | [] => True
  | e :: es => EntOk X e ∧ AllOk X es

theorem tab_ok {X : Env} : ∀ {es : List Ent}, AllOk X es → OrcOk X (tabO es)
  | [], _, f, args, S0, r, S1, h => by simp [tabO] at h
  | e :: es, ha, f, args, S0, r, S1, h => by
    simp only [tabO] at h
    split at h
    · rename_i hc
      simp only [Bool.and_eq_true] at hc
      obtain ⟨h1, h2, h3⟩ := hc
      have e1 := Nat.eq_of_beq_eq_true h1
      have e2 := beqAs_ok _ _ h2
      have e3 := beqBs_ok _ _ h3
      simp only [Option.some.injEq, Prod.mk.injEq] at h
      obtain ⟨rfl, rfl⟩ := h
      have := ha.1
      unfold EntOk at this
      rwa [e1, e2, e3] at this
    · exact tab_ok ha.2 f args S0 r S1 h

def isEnt (e : Ent) : Option (AV × List Blk) → Bool
  | some (r, S1) => beqA r e.r && beqBs S1 e.S1
  | none => false

/-- One call, out of those that it makes. -/
theorem ent_ok {X : Env} (hX : EnvOk X) {md rmd : FuncId → List Bool} {es : List Ent} (ha : AllOk X es) (e : Ent) (h : isEnt e (evF X md rmd (tabO es) 2 e.f e.args e.S0) = true) : EntOk X e := by
  unfold isEnt at h
  split at h
  · rename_i r S1 hr
    simp only [Bool.and_eq_true] at h
    have e1 := beqA_ok _ _ h.1
    have e2 := beqBs_ok _ _ h.2
    subst e1; subst e2
    exact evF_ok hX (tab_ok ha) 2 _ _ _ _ _ hr
  · simp at h
end Go.Pl
