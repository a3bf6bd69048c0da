/- Values put into normal form on the way: so that the kernel does not carry along what it has not reckoned. -/
import Derived.Test.YtkaaolegkffckaaGreatDoorPlCode
set_option linter.unusedVariables false
namespace Go.Pl

def forceN {β : Type} : Nat → (Nat → β) → β
  | 0, K => K 0
  | n + 1, K => K (n + 1)
theorem forceN_eq {β : Type} (n : Nat) (K : Nat → β) : forceN n K = K n := by cases n <;> rfl

def forceV {β : Type} (v : Value) (K : Value → β) : β := match v with
  | .int k (.ofNat n) => forceN n fun n => K (.int k (.ofNat n))
  | .int k (.negSucc n) => forceN n fun n => K (.int k (.negSucc n))
  | .bool true => K (.bool true)
  | .bool false => K (.bool false)
  | v => K v
theorem forceV_eq {β : Type} (v : Value) (K : Value → β) : forceV v K = K v := by
  unfold forceV
  split <;> first | rfl | exact forceN_eq _ _

def forceP {β : Type} (x : PV) (K : PV → β) : β := match x with
  | .v v => forceV v fun v => K (.v v)
  | x => K x
theorem forceP_eq {β : Type} (x : PV) (K : PV → β) : forceP x K = K x := by
  unfold forceP
  split
  · exact forceV_eq _ _
  · rfl

def forceA {β : Type} (x : AV) (K : AV → β) : β := match x with
  | .p x => forceP x fun x => K (.p x)
  | .own a b c d => forceN a fun a => forceN b fun b => forceN c fun c => forceN d fun d => K (.own a b c d)
  | .bp a b => forceN a fun a => forceN b fun b => K (.bp a b)
  | x => K x
theorem forceA_eq {β : Type} (x : AV) (K : AV → β) : forceA x K = K x := by
  unfold forceA
  split
  · exact forceP_eq _ _
  · simp only [forceN_eq]
  · simp only [forceN_eq]
  · rfl

def forceAs {β : Type} : List AV → (List AV → β) → β
  | [], K => K []
  | x :: xs, K => forceA x fun x => forceAs xs fun xs => K (x :: xs)
theorem forceAs_eq {β : Type} : ∀ (xs : List AV) (K : List AV → β), forceAs xs K = K xs
  | [], K => rfl
  | x :: xs, K => by simp only [forceAs, forceA_eq]; exact forceAs_eq xs _

def forceBs {β : Type} : List Blk → (List Blk → β) → β
  | [], K => K []
  | x :: xs, K => match x with
    | .box cells => forceAs cells fun cells => forceBs xs fun xs => K (.box cells :: xs)
    | .dead => forceBs xs fun xs => K (.dead :: xs)
    | .none => forceBs xs fun xs => K (.none :: xs)
    | .arr fz v es els => forceN v fun v => forceBs xs fun xs => K (.arr fz v es els :: xs)
    | .it s p => forceN p fun p => forceBs xs fun xs => K (.it s p :: xs)
theorem forceBs_eq {β : Type} : ∀ (xs : List Blk) (K : List Blk → β), forceBs xs K = K xs
  | [], K => rfl
  | x :: xs, K => by
    cases x <;> simp only [forceBs, forceAs_eq, forceN_eq] <;> exact forceBs_eq xs _
end Go.Pl
