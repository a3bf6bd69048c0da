/- Functions of Go's library whose contract is shown by hand. -/
import Derived.Test.YtkaaolegkffckaaGreatDoorPlRun
set_option linter.unusedVariables false
set_option linter.unusedSimpArgs false
namespace Go.Pl

/-- Nothing at all may be called an array without a block. -/
theorem MA.empty {w w' : World} {g g' : Gh} {L : Nat → Blk} (h : MA w g L w' g' (fnS [])) (es : Nat) : MA w g L w' ⟨upd g'.m 0 none, g'.st⟩ (fnS [.arr false 0 es []]) := by
  have hL : ∀ b, L b = .none ∨ L b = .dead ∨ True := fun _ => .inr (.inr trivial)
  have one : ∀ b, fnS [.arr false 0 es []] b = if b = 0 then .arr false 0 es [] else .none := fun b => by
    cases b with
    | zero => rfl
    | succ b => rfl
  have emp : ∀ b, fnS [] b = Blk.none := fun b => rfl
  refine ⟨⟨fun b => ?_, fun b b' k o n o' n' h1 h2 h3 h4 => ?_, h.rel.stc⟩, ⟨h.ev.keep, fun b => ?_⟩, h.out, fun b k o n hl hm => ?_, h.news⟩
  · rw [one]
    split
    · rename_i hb; subst hb; simp [BlkOk]
    · trivial
  · rw [one] at h1
    split at h1
    · rename_i hb; subst hb; simp at h3
    · exact h1.elim
  · have hle := h.ev.le b
    rw [emp] at hle
    revert hle
    cases hx : L b <;> simp [BlkLe]
  · rw [one] at hl
    split at hl
    · rename_i hb; subst hb; simp at hm
    · exact hl.elim

/-- slices.Clone of a slice without elements: what it makes has no room, whether it is nil or not. -/
theorem clone_nil {X : Env} {f : FuncId} {es : Nat} (h1 : ∀ cap, Sem X f [.p (.v (.slice none 0 cap))] [] (.nil true) [])
    (h2 : ∀ a cap, Sem X f [.p (.v (.slice (some a) 0 cap))] [] (.own 0 0 0 0) [.arr false 0 es []]) : Sem X f [.p (.sl [])] [] (.own 0 0 0 0) [.arr false 0 es []] := by
  refine ⟨(h1 0).1, Nat.zero_le _, fun w g vs r hg hv => ?_⟩
  simp only [VAs, VA, VP] at hv
  obtain ⟨u, us, rfl, ⟨a, cap, rfl, _, _⟩, rfl⟩ := hv
  cases a with
  | some a =>
    refine (h2 a cap).2.2 w g _ r hg ?_
    simp only [VAs, VA, VP]
    exact ⟨_, _, rfl, rfl, rfl⟩
  | none =>
    refine Calls.mono ((h1 cap).2.2 w g _ r hg ?_) fun e w' he => ?_
    · simp only [VAs, VA, VP]
      exact ⟨_, _, rfl, rfl, rfl⟩
    · obtain ⟨v, rfl, g', hm, hva⟩ := he
      refine ⟨v, rfl, _, hm.empty es, ?_⟩
      simp only [VA] at hva
      obtain ⟨a, rfl, _⟩ := hva
      simp only [VA]
      refine ⟨⟨_, _, rfl⟩, ?_⟩
      show 0 ≤ 0 ∧ _
      exact ⟨Nat.le_refl _, fun _ => by simp⟩
end Go.Pl
