/- QuietForms holds: the closed law returns true in whatever state of memory and whatever order Go takes where it leaves one open: its run, call by call, is checked by the kernel on a plain machine that is proved to do what the model does. No condition but the card's own: the listed tables of unicode/utf8 hold what the program's text lays. -/
import Derived.Test.YtkaaolegkffckaaGreatDoorRows
import Derived.Test.YtkaaolegkffckaaGreatDoorCards
import Derived.Test.YtkaaolegkffckaaGreatDoorTie
import Derived.Test.YtkaaolegkffckaaGreatDoorHead
import Derived.Test.YtkaaolegkffckaaGreatDoorAq3
import Derived.ProofKit
import Derived.OpenShut
import Derived.LaidMore
import Derived.Lay
import Derived.SevenTiedAt
import Derived.Stop.Joined
import Derived.Below
namespace Go.Proofs.YtkaaolegkffckaaGreatDoor.quietForms
open Go Go.ChangeShapes Go.WideShapes Go.ChangeAt Go.RowKit
set_option linter.unusedVariables false

theorem own : ownKnob Tryz.prog.godebug = none := by kernel_rfl

/-- The call returns true; what was there stays as it was. -/
theorem walk (w : World) : Calls Tryz.prog 11 #[] w fun e w' => e = .returned (.bool true) ∧ Below w.heap.size w w' := by
  have h : Go.Pl.Sem Go.Pl.Aq.XX 11 [] [] Go.Pl.T [] := Go.Pl.Aq.q2051
  obtain ⟨_, _, h⟩ := h
  have rel : Go.Pl.Rel w ⟨fun _ => none, fun _ _ => False⟩ (Go.Pl.fnS []) :=
    ⟨fun b => trivial, fun b b' k o n o' n' hl => hl.elim, fun k j hs => hs.elim⟩
  refine Calls.mono (h w ⟨fun _ => none, fun _ _ => False⟩ [] rel (fun i cs hi => by cases hi) (by simp only [Go.Pl.VAs])) fun e w' he => ?_
  obtain ⟨v, rfl, g', hm, hv⟩ := he
  simp only [Go.Pl.VA, Go.Pl.VP] at hv
  subst hv
  refine ⟨rfl, hm.out.os, hm.out.tape, hm.out.output, hm.out.size, fun k hk => hm.out.same k hk ?_⟩
  rintro ⟨b, o, n, _, hl, _⟩
  exact hl

def laid : List (String × DataW Unit) := [("unicode/utf8.acceptRanges", Rows.laid_unicode_utf8_acceptRanges), ("unicode/utf8.first", Rows.laid_unicode_utf8_first)]

set_option maxRecDepth 100000 in
theorem lifted (os : Os) (started : os.Started) (H : Type) (enc : TypeId × Value → H) :
    ReturnsInHanded {} Tryz.checked os 11 .any (fun w args => (Rows.quietFormsSpec.pre enc Tryz.prog Tryz.f11 Rows.quietFormsRow.domain false w args ∧ laidMetH Tryz.prog laid w) ∧ sizedMet enc Tryz.prog Tryz.f11 (OpenSpec.ofChange Rows.quietFormsSpec) false w args)
      (Rows.quietFormsSpec.post enc Tryz.prog Tryz.f11 false true false false) := by
  refine returnsInHanded_of_change_and (C := Tryz.checked) (X := fun w _ => laidMetH Tryz.prog laid w) (fun _ _ _ hh h => h.of_heap hh) own started (by kernel_rfl) Tryz.func11
    (ChangeSpec.witness_shaped (enc := enc) (C := Tryz.checked) (os := os) (X := fun w _ => laidMetH Tryz.prog laid w) false (World.laidAll Tryz.prog os laid) #[] 8 (World.laidAll_os _ _ _)
      (World.shaped_of_ZipB (by kernel_rfl) (by kernel_rfl)) (by kernel_rfl) (by kernel_rfl) (by kernel_rfl)
      (by rw [MakeChecks.laidMetH_plain _ _ _ (by kernel_rfl)]; exact laidMet_laidAll _ (by kernel_rfl) (by kernel_rfl))) ?_
  intro W base args ds gs before hval0 hW _ _ hL _
  have hW' := hW
  obtain ⟨p, q, hA0, hV, rfl, hfz, hnd⟩ := hW
  have hA : DataW.TrodAll enc Tryz.prog W 0 (fun _ => true) true Tryz.f11.params.toList args.toList ds p := hA0
  rw [Tryz.params11] at hA
  obtain ⟨rfl, rfl, rfl⟩ := trodAll_none hA
  obtain ⟨rfl, rfl⟩ := trodVars_none hV
  refine (walk W).mono fun e W' ⟨he, bel⟩ => ?_
  subst he
  exact ⟨_, rfl, _, _, _, [], _, [], hW', trodAll_mk1 (shut_bool Tryz.underlying4 _), trodAll_mk0, rfl, bel.frame _, fun h => by cases h⟩

set_option maxHeartbeats 0 in
theorem facts : joinedFacts Tryz.prog 11 Tryz.f11 Rows.quietFormsSpec Rows.quietFormsRow = true := by
  simp only [joinedFacts, head_enter, head_final, head_make, Bool.and_eq_true]
  and_intros
  all_goals first | exact True.intro | (as_aux_lemma => kernel_rfl)

theorem named : Tryz.pinned.checked.prog.funcNamed Rows.quietFormsRow.func = some 11 := by kernel_rfl
theorem inst : Tryz.f11.isInstance Tryz.pinned.checked.prog Rows.quietFormsRow.origin Rows.quietFormsRow.targs := of_decide_eq_true (by kernel_rfl)
theorem wrapper : Tryz.f11.isWrapper Tryz.pinned.checked.prog Rows.quietFormsRow.wrapper Rows.quietFormsRow.mainSum := by
  unfold Func.isWrapper
  rw [if_neg (by decide +kernel)]
  exact ⟨rfl, rfl⟩

theorem over : Rows.QuietFormsSaid :=
  OpenClaim.holds_of_wide 11 Tryz.f11 rfl rfl rfl rfl rfl rfl rfl ⟨rfl, rfl, rfl, rfl, rfl⟩ rfl rfl rfl rfl rfl named Tryz.func11 facts inst wrapper
    (fun os started H enc _ => lifted os started H enc)

theorem wf : Rows.quietFormsRow.wfByText (OpenSpec.ofChange Rows.quietFormsSpec) = true := by kernel_rfl
theorem looks : true = Tryz.pinned.checked.prog.looks [] := by kernel_rfl
theorem goes_of (P : Program) (f : FuncId) (func : String) (hn : P.funcNamed func = some f) (h : P.funcs.any Func.goes = false) : false = P.goesAt .entering func := by
  have all : ∀ g : FuncId, (P.funcs[g]?).any Func.goes = false := by
    intro g
    cases hg : P.funcs[g]? with
    | none => rfl
    | some fn =>
      have hm : fn ∈ P.funcs := Array.mem_of_getElem? hg
      have := Array.any_eq_false'.1 h fn hm
      simpa using this
  unfold Program.goesAt Program.goesFrom
  rw [hn]
  unfold Program.goes
  simp [all, h]
theorem no_goes : Tryz.prog.funcs.any Func.goes = false := by kernel_rfl
theorem goes : false = Rows.quietFormsRow.goesBy Tryz.pinned.checked.prog := goes_of Tryz.prog 11 _ named no_goes
theorem main : Tryz.pinned.checked.prog.mainIs = some (true, "2112ad3626a827e0cbe35b17d7b6befefdf8e6d02820e9e470b91b3a23a33611".toList) := head_main

theorem card : Rows.QuietFormsCardSaid :=
  Claim7.holds_tied_plain_at .later [] [.data, .pinned] true (true, "2112ad3626a827e0cbe35b17d7b6befefdf8e6d02820e9e470b91b3a23a33611") true over (fun _ h => by cases h) wf (fun _ h => by cases h) quietForms_row_tie rfl ⟨rfl, rfl⟩ main rfl
    (fun f fn hf hfn => by
      obtain rfl : f = 11 := Option.some.inj (named.symm.trans hf) |>.symm
      obtain rfl : fn = Tryz.f11 := (Option.some.inj (Tryz.func11.symm.trans hfn)).symm
      exact ⟨looks, fun j t ht => by
        rw [Tryz.params11] at ht
        simp at ht⟩)
    goes
end Go.Proofs.YtkaaolegkffckaaGreatDoor.quietForms
namespace Go.Proofs.YtkaaolegkffckaaGreatDoor
theorem quietForms_holds : Rows.QuietFormsCardSaid := quietForms.card
end Go.Proofs.YtkaaolegkffckaaGreatDoor
