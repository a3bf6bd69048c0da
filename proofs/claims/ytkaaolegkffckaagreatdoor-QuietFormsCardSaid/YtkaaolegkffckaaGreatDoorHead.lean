/- What the words at the program's head say: the kernel reads them sign by sign, apart from the rest (the head of a seat of many laws is long). -/
import Derived.Test.YtkaaolegkffckaaGreatDoorRows
import Derived.JoinedOf
import Derived.KernelRfl
namespace Go.Proofs.YtkaaolegkffckaaGreatDoor
open Go
set_option maxRecDepth 100000
/-- The head's signs, by number. -/
def headSigns : List Nat := [104, 97, 114, 110, 101, 115, 115, 32, 50, 49, 49, 50, 97, 100, 51, 54, 50, 54, 97, 56, 50, 55, 101, 48, 99, 98, 101, 51, 53, 98, 49, 55, 100, 55, 98, 54, 98, 101, 102, 101, 102, 100, 102, 56, 101, 54, 100, 48, 50, 56, 50, 48, 101, 57, 101, 52, 55, 48, 98, 57, 49, 98, 51, 97, 50, 51, 97, 51, 51, 54, 49, 49, 32, 99, 117, 116, 32, 97, 116, 32, 112, 108, 101, 97, 99, 104, 47, 112, 108, 101, 97, 99, 104, 108, 97, 119, 50, 50, 46, 87, 111, 114, 108, 100, 83, 101, 110, 116, 32, 112, 108, 101, 97, 99, 104, 47, 112, 108, 101, 97, 99, 104, 108, 97, 119, 50, 50, 46, 87, 111, 114, 108, 100, 70, 111, 114, 109, 115, 32, 112, 108, 101, 97, 99, 104, 47, 112, 108, 101, 97, 99, 104, 108, 97, 119, 50, 50, 46, 87, 111, 114, 108, 100, 74, 111, 105, 110, 115, 32, 112, 108, 101, 97, 99, 104, 47, 112, 108, 101, 97, 99, 104, 108, 97, 119, 50, 50, 46, 87, 111, 114, 108, 100, 83, 97, 121, 115, 32, 112, 108, 101, 97, 99, 104, 47, 112, 108, 101, 97, 99, 104, 108, 97, 119, 50, 50, 46, 87, 111, 114, 108, 100, 76, 111, 115, 116, 32, 112, 108, 101, 97, 99, 104, 47, 112, 108, 101, 97, 99, 104, 108, 97, 119, 50, 51, 46, 81, 117, 105, 101, 116, 65, 108, 108, 32, 112, 108, 101, 97, 99, 104, 47, 112, 108, 101, 97, 99, 104, 108, 97, 119, 50, 51, 46, 81, 117, 105, 101, 116, 83, 101, 116, 116, 108, 101, 115, 32, 112, 108, 101, 97, 99, 104, 47, 112, 108, 101, 97, 99, 104, 108, 97, 119, 50, 51, 46, 81, 117, 105, 101, 116, 76, 111, 111, 112, 115, 32, 112, 108, 101, 97, 99, 104, 47, 112, 108, 101, 97, 99, 104, 108, 97, 119, 50, 51, 46, 81, 117, 105, 101, 116, 70, 111, 114, 109, 115, 32, 112, 108, 101, 97, 99, 104, 47, 112, 108, 101, 97, 99, 104, 108, 97, 119, 50, 51, 46, 81, 117, 105, 101, 116, 69, 109, 112, 116, 105, 101, 115, 32, 112, 108, 101, 97, 99, 104, 47, 112, 108, 101, 97, 99, 104, 108, 97, 119, 50, 51, 46, 81, 117, 105, 101, 116, 83, 116, 105, 108, 108, 32, 112, 108, 101, 97, 99, 104, 47, 112, 108, 101, 97, 99, 104, 108, 97, 119, 50, 54, 46, 80, 108, 97, 121, 82, 117, 110, 115, 32, 112, 108, 101, 97, 99, 104, 47, 112, 108, 101, 97, 99, 104, 108, 97, 119, 50, 54, 46, 80, 108, 97, 121, 66, 121, 116, 101, 115, 32, 112, 108, 101, 97, 99, 104, 47, 112, 108, 101, 97, 99, 104, 108, 97, 119, 50, 54, 46, 80, 108, 97, 121, 80, 97, 114, 116, 115, 32, 112, 108, 101, 97, 99, 104, 47, 112, 108, 101, 97, 99, 104, 108, 97, 119, 50, 52, 46, 84, 114, 117, 116, 104, 73, 110, 79, 114, 100, 101, 114, 32, 112, 108, 101, 97, 99, 104, 47, 112, 108, 101, 97, 99, 104, 108, 97, 119, 50, 52, 46, 84, 114, 117, 116, 104, 83, 97, 105, 100, 32, 112, 108, 101, 97, 99, 104, 47, 112, 108, 101, 97, 99, 104, 108, 97, 119, 50, 52, 46, 84, 114, 117, 116, 104, 71, 114, 111, 119, 115, 32, 112, 108, 101, 97, 99, 104, 47, 112, 108, 101, 97, 99, 104, 116, 111, 112, 46, 84, 111, 112, 78, 101, 119, 32, 112, 108, 101, 97, 99, 104, 47, 112, 108, 101, 97, 99, 104, 116, 111, 112, 46, 84, 111, 112, 76, 97, 116, 101, 32, 112, 108, 101, 97, 99, 104, 47, 112, 108, 101, 97, 99, 104, 116, 111, 112, 46, 84, 111, 112, 70, 117, 108, 108, 32, 112, 108, 101, 97, 99, 104, 47, 112, 108, 101, 97, 99, 104, 116, 111, 112, 46, 84, 111, 112, 72, 101, 97, 108, 115, 32, 112, 108, 101, 97, 99, 104, 47, 112, 108, 101, 97, 99, 104, 116, 111, 112, 46, 84, 111, 112, 78, 101, 97, 114, 32, 112, 108, 101, 97, 99, 104, 47, 112, 108, 101, 97, 99, 104, 116, 111, 112, 46, 84, 111, 112, 68, 101, 101, 112, 32, 112, 108, 101, 97, 99, 104, 47, 112, 108, 101, 97, 99, 104, 116, 111, 112, 46, 84, 111, 112, 87, 104, 111, 108, 101, 32, 112, 108, 101, 97, 99, 104, 47, 112, 108, 101, 97, 99, 104, 116, 111, 112, 46, 84, 111, 112, 83, 97, 109, 101]
def headWords : List (List Nat) := [[104, 97, 114, 110, 101, 115, 115], [50, 49, 49, 50, 97, 100, 51, 54, 50, 54, 97, 56, 50, 55, 101, 48, 99, 98, 101, 51, 53, 98, 49, 55, 100, 55, 98, 54, 98, 101, 102, 101, 102, 100, 102, 56, 101, 54, 100, 48, 50, 56, 50, 48, 101, 57, 101, 52, 55, 48, 98, 57, 49, 98, 51, 97, 50, 51, 97, 51, 51, 54, 49, 49], [99, 117, 116], [97, 116], [112, 108, 101, 97, 99, 104, 47, 112, 108, 101, 97, 99, 104, 108, 97, 119, 50, 50, 46, 87, 111, 114, 108, 100, 83, 101, 110, 116], [112, 108, 101, 97, 99, 104, 47, 112, 108, 101, 97, 99, 104, 108, 97, 119, 50, 50, 46, 87, 111, 114, 108, 100, 70, 111, 114, 109, 115], [112, 108, 101, 97, 99, 104, 47, 112, 108, 101, 97, 99, 104, 108, 97, 119, 50, 50, 46, 87, 111, 114, 108, 100, 74, 111, 105, 110, 115], [112, 108, 101, 97, 99, 104, 47, 112, 108, 101, 97, 99, 104, 108, 97, 119, 50, 50, 46, 87, 111, 114, 108, 100, 83, 97, 121, 115], [112, 108, 101, 97, 99, 104, 47, 112, 108, 101, 97, 99, 104, 108, 97, 119, 50, 50, 46, 87, 111, 114, 108, 100, 76, 111, 115, 116], [112, 108, 101, 97, 99, 104, 47, 112, 108, 101, 97, 99, 104, 108, 97, 119, 50, 51, 46, 81, 117, 105, 101, 116, 65, 108, 108], [112, 108, 101, 97, 99, 104, 47, 112, 108, 101, 97, 99, 104, 108, 97, 119, 50, 51, 46, 81, 117, 105, 101, 116, 83, 101, 116, 116, 108, 101, 115], [112, 108, 101, 97, 99, 104, 47, 112, 108, 101, 97, 99, 104, 108, 97, 119, 50, 51, 46, 81, 117, 105, 101, 116, 76, 111, 111, 112, 115], [112, 108, 101, 97, 99, 104, 47, 112, 108, 101, 97, 99, 104, 108, 97, 119, 50, 51, 46, 81, 117, 105, 101, 116, 70, 111, 114, 109, 115], [112, 108, 101, 97, 99, 104, 47, 112, 108, 101, 97, 99, 104, 108, 97, 119, 50, 51, 46, 81, 117, 105, 101, 116, 69, 109, 112, 116, 105, 101, 115], [112, 108, 101, 97, 99, 104, 47, 112, 108, 101, 97, 99, 104, 108, 97, 119, 50, 51, 46, 81, 117, 105, 101, 116, 83, 116, 105, 108, 108], [112, 108, 101, 97, 99, 104, 47, 112, 108, 101, 97, 99, 104, 108, 97, 119, 50, 54, 46, 80, 108, 97, 121, 82, 117, 110, 115], [112, 108, 101, 97, 99, 104, 47, 112, 108, 101, 97, 99, 104, 108, 97, 119, 50, 54, 46, 80, 108, 97, 121, 66, 121, 116, 101, 115], [112, 108, 101, 97, 99, 104, 47, 112, 108, 101, 97, 99, 104, 108, 97, 119, 50, 54, 46, 80, 108, 97, 121, 80, 97, 114, 116, 115], [112, 108, 101, 97, 99, 104, 47, 112, 108, 101, 97, 99, 104, 108, 97, 119, 50, 52, 46, 84, 114, 117, 116, 104, 73, 110, 79, 114, 100, 101, 114], [112, 108, 101, 97, 99, 104, 47, 112, 108, 101, 97, 99, 104, 108, 97, 119, 50, 52, 46, 84, 114, 117, 116, 104, 83, 97, 105, 100], [112, 108, 101, 97, 99, 104, 47, 112, 108, 101, 97, 99, 104, 108, 97, 119, 50, 52, 46, 84, 114, 117, 116, 104, 71, 114, 111, 119, 115], [112, 108, 101, 97, 99, 104, 47, 112, 108, 101, 97, 99, 104, 116, 111, 112, 46, 84, 111, 112, 78, 101, 119], [112, 108, 101, 97, 99, 104, 47, 112, 108, 101, 97, 99, 104, 116, 111, 112, 46, 84, 111, 112, 76, 97, 116, 101], [112, 108, 101, 97, 99, 104, 47, 112, 108, 101, 97, 99, 104, 116, 111, 112, 46, 84, 111, 112, 70, 117, 108, 108], [112, 108, 101, 97, 99, 104, 47, 112, 108, 101, 97, 99, 104, 116, 111, 112, 46, 84, 111, 112, 72, 101, 97, 108, 115], [112, 108, 101, 97, 99, 104, 47, 112, 108, 101, 97, 99, 104, 116, 111, 112, 46, 84, 111, 112, 78, 101, 97, 114], [112, 108, 101, 97, 99, 104, 47, 112, 108, 101, 97, 99, 104, 116, 111, 112, 46, 84, 111, 112, 68, 101, 101, 112], [112, 108, 101, 97, 99, 104, 47, 112, 108, 101, 97, 99, 104, 116, 111, 112, 46, 84, 111, 112, 87, 104, 111, 108, 101], [112, 108, 101, 97, 99, 104, 47, 112, 108, 101, 97, 99, 104, 116, 111, 112, 46, 84, 111, 112, 83, 97, 109, 101]]
theorem head_text : Tryz.prog.initOrder = "harness 2112ad3626a827e0cbe35b17d7b6befefdf8e6d02820e9e470b91b3a23a33611 cut at pleach/pleachlaw22.WorldSent pleach/pleachlaw22.WorldForms pleach/pleachlaw22.WorldJoins pleach/pleachlaw22.WorldSays pleach/pleachlaw22.WorldLost pleach/pleachlaw23.QuietAll pleach/pleachlaw23.QuietSettles pleach/pleachlaw23.QuietLoops pleach/pleachlaw23.QuietForms pleach/pleachlaw23.QuietEmpties pleach/pleachlaw23.QuietStill pleach/pleachlaw26.PlayRuns pleach/pleachlaw26.PlayBytes pleach/pleachlaw26.PlayParts pleach/pleachlaw24.TruthInOrder pleach/pleachlaw24.TruthSaid pleach/pleachlaw24.TruthGrows pleach/pleachtop.TopNew pleach/pleachtop.TopLate pleach/pleachtop.TopFull pleach/pleachtop.TopHeals pleach/pleachtop.TopNear pleach/pleachtop.TopDeep pleach/pleachtop.TopWhole pleach/pleachtop.TopSame" := by kernel_rfl
theorem head_list : "harness 2112ad3626a827e0cbe35b17d7b6befefdf8e6d02820e9e470b91b3a23a33611 cut at pleach/pleachlaw22.WorldSent pleach/pleachlaw22.WorldForms pleach/pleachlaw22.WorldJoins pleach/pleachlaw22.WorldSays pleach/pleachlaw22.WorldLost pleach/pleachlaw23.QuietAll pleach/pleachlaw23.QuietSettles pleach/pleachlaw23.QuietLoops pleach/pleachlaw23.QuietForms pleach/pleachlaw23.QuietEmpties pleach/pleachlaw23.QuietStill pleach/pleachlaw26.PlayRuns pleach/pleachlaw26.PlayBytes pleach/pleachlaw26.PlayParts pleach/pleachlaw24.TruthInOrder pleach/pleachlaw24.TruthSaid pleach/pleachlaw24.TruthGrows pleach/pleachtop.TopNew pleach/pleachtop.TopLate pleach/pleachtop.TopFull pleach/pleachtop.TopHeals pleach/pleachtop.TopNear pleach/pleachtop.TopDeep pleach/pleachtop.TopWhole pleach/pleachtop.TopSame" = String.ofList (headSigns.map Char.ofNat) := by kernel_rfl
theorem head_words0 : wordsSigns (headSigns.map Char.ofNat) = headWords.map (·.map Char.ofNat) := by kernel_rfl
theorem head_words : wordsSigns Tryz.prog.initOrder.toList = headWords.map (·.map Char.ofNat) := by
  rw [head_text, head_list, String.toList_ofList]
  exact head_words0
/-- 'cut', and what stands behind it. -/
def headCut : List Char := [99, 117, 116].map Char.ofNat
def headRest : List (List Char) := (headWords.drop 3).map (·.map Char.ofNat)
theorem head_behind : behindMainWord (wordsSigns Tryz.prog.initOrder.toList) = headCut :: headRest := by
  rw [head_words]
  kernel_rfl
theorem head_strip : stripLifts liftWords (headCut :: headRest) = ([], headCut :: headRest) := by kernel_rfl
theorem cut_gc : (headCut == "gc".toList) = false := by kernel_rfl
theorem cut_spec : (headCut == "spec".toList) = false := by kernel_rfl
theorem cut_carried : (headCut == "carried".toList) = false := by kernel_rfl
theorem cut_cut : (headCut == "cut".toList) = true := by kernel_rfl
theorem cut_head : (some headCut == some "cut".toList) = true := by kernel_rfl
theorem cut_head2 : (some headCut == some "carried".toList) = false := by kernel_rfl
theorem lays_later : Tryz.prog.laysLater = false := by kernel_rfl
theorem bears_reflect : Tryz.prog.bearsReflect = false := by kernel_rfl
theorem door_fits : Tryz.prog.doorFits [] = true := by kernel_rfl
theorem lifts_of (P : Program) (c : List Char) (r : List (List Char)) (h : behindMainWord (wordsSigns P.initOrder.toList) = c :: r) (hs : stripLifts liftWords (c :: r) = ([], c :: r)) : P.headLifts = [] := by
  unfold Program.headLifts
  rw [h, hs]
  simp only [ite_self]
theorem enter_of (P : Program) (c : List Char) (r : List (List Char)) (h : behindMainWord (wordsSigns P.initOrder.toList) = c :: r) (hs : stripLifts liftWords (c :: r) = ([], c :: r)) (hc : (some c == some "cut".toList) = true)
    (h1 : P.laysLater = false) (h2 : P.bearsReflect = false) (h3 : P.doorFits [] = true) : P.mayEnter = true := by
  unfold Program.mayEnter
  rw [h]
  simp only [hs, List.head?_cons, hc, h1, h2, h3, Bool.not_false, Bool.or_true, Bool.and_true, List.contains_nil]
theorem final_of (P : Program) (c : List Char) (r : List (List Char)) (h : behindMainWord (wordsSigns P.initOrder.toList) = c :: r) (hl : P.headLifts = []) (hc : (some c == some "carried".toList) = false) : P.liftsFinal = false := by
  unfold Program.liftsFinal
  rw [h, hl]
  simp only [List.head?_cons, hc, Bool.false_and, List.contains_nil, Bool.or_self]
theorem make_of (P : Program) (c : List Char) (r : List (List Char)) (h : behindMainWord (wordsSigns P.initOrder.toList) = c :: r) (h1 : (c == "gc".toList) = false) (h2 : (c == "spec".toList) = false) (h3 : (c == "cut".toList) = true) : P.make = some .cut := by
  unfold Program.make
  rw [h]
  simp only [h1, h2, h3, Bool.or_self, Bool.false_eq_true, if_false, Bool.true_or, if_true]
theorem head_lifts : Tryz.prog.headLifts = [] := lifts_of _ _ _ head_behind head_strip
theorem head_enter : Tryz.prog.mayEnter = true := enter_of _ _ _ head_behind head_strip cut_head lays_later bears_reflect door_fits
theorem head_final : Tryz.prog.liftsFinal = false := final_of _ _ _ head_behind head_lifts cut_head2
theorem head_make : Tryz.prog.make = some .cut := make_of _ _ _ head_behind cut_gc cut_spec cut_cut
theorem main_of (P : Program) (h s : List Char) (r : List (List Char)) (hw : wordsSigns P.initOrder.toList = h :: s :: r) (h1 : isSumSigns s = true) (h2 : (h == "harness".toList) = true) : P.mainIs = some (true, s) := by
  unfold Program.mainIs
  rw [hw]
  simp only [h1, h2, Bool.not_true, Bool.false_eq_true, if_false, if_true]
def headHarness : List Char := [104, 97, 114, 110, 101, 115, 115].map Char.ofNat
def headSum : List Char := [50, 49, 49, 50, 97, 100, 51, 54, 50, 54, 97, 56, 50, 55, 101, 48, 99, 98, 101, 51, 53, 98, 49, 55, 100, 55, 98, 54, 98, 101, 102, 101, 102, 100, 102, 56, 101, 54, 100, 48, 50, 56, 50, 48, 101, 57, 101, 52, 55, 48, 98, 57, 49, 98, 51, 97, 50, 51, 97, 51, 51, 54, 49, 49].map Char.ofNat
theorem head_words2 : wordsSigns Tryz.prog.initOrder.toList = headHarness :: headSum :: headCut :: headRest := by
  rw [head_words]
  kernel_rfl
theorem sum_signs : isSumSigns headSum = true := by kernel_rfl
theorem harness_word : (headHarness == "harness".toList) = true := by kernel_rfl
theorem sum_list : "2112ad3626a827e0cbe35b17d7b6befefdf8e6d02820e9e470b91b3a23a33611" = String.ofList headSum := by kernel_rfl
theorem sum_text : "2112ad3626a827e0cbe35b17d7b6befefdf8e6d02820e9e470b91b3a23a33611".toList = headSum := by
  rw [sum_list, String.toList_ofList]
theorem head_main : Tryz.prog.mainIs = some (true, "2112ad3626a827e0cbe35b17d7b6befefdf8e6d02820e9e470b91b3a23a33611".toList) := by
  rw [sum_text]
  exact main_of _ _ _ _ head_words2 sum_signs harness_word
end Go.Proofs.YtkaaolegkffckaaGreatDoor
