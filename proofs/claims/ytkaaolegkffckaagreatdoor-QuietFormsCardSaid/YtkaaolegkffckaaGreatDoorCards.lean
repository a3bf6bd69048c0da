/-
  DERIVED. GIVEN WITH THE SEED: THE CARDS: each row of YtkaaolegkffckaaGreatDoorRows.lean that lists a variable, with what it lists TIED to the program's text (the seventh form; the later family's looks); each row that meets fmt, with fmt's text TOLD by the authors' own Lean function (tested against real Go, not proved from fmt's source: count such statements apart). THE CARD IS WHAT COUNTS. Prove the row's statement (the work); the ties are given (YtkaaolegkffckaaGreatDoorTie.lean); close each card by the builder's one call (the guide's Derived/Test/ToyasCard.lean, 'card_holds'). Laid BY PROGRAM, IN A SANDBOX (cutbox-door.mjs). By AI agents, Wed Nov 11 2026. No macro, syntax, notation, axiom, sorry.
-/
import Derived.Test.YtkaaolegkffckaaGreatDoorRows
import GoSem.ClaimSeven
namespace Go.Proofs.YtkaaolegkffckaaGreatDoor
namespace Rows

/-- THE TIED CARD OF 'pleachlaw22.WorldSent'. -/
def worldSentCard : Claim7 := { stood := { row := worldSentRow, standIns := [], harness := (true, "2112ad3626a827e0cbe35b17d7b6befefdf8e6d02820e9e470b91b3a23a33611"), looks := true }, kinds := [], alts := [], laidByText := true, laidKinds := [.data, .pinned], laidTests := true, laidLooks := .later }
def WorldSentCardSaid : Prop := Claim7.holds Tryz.pinned (.plain (OpenSpec.ofChange worldSentSpec)) worldSentCard

/-- THE TIED CARD OF 'pleachlaw22.WorldForms'. -/
def worldFormsCard : Claim7 := { stood := { row := worldFormsRow, standIns := [], harness := (true, "2112ad3626a827e0cbe35b17d7b6befefdf8e6d02820e9e470b91b3a23a33611"), looks := true }, kinds := [], alts := [], laidByText := true, laidKinds := [.data, .pinned], laidTests := true, laidLooks := .later }
def WorldFormsCardSaid : Prop := Claim7.holds Tryz.pinned (.plain (OpenSpec.ofChange worldFormsSpec)) worldFormsCard

/-- THE TIED CARD OF 'pleachlaw22.WorldJoins'. -/
def worldJoinsCard : Claim7 := { stood := { row := worldJoinsRow, standIns := [], harness := (true, "2112ad3626a827e0cbe35b17d7b6befefdf8e6d02820e9e470b91b3a23a33611"), looks := true }, kinds := [], alts := [], laidByText := true, laidKinds := [.data, .pinned], laidTests := true, laidLooks := .later }
def WorldJoinsCardSaid : Prop := Claim7.holds Tryz.pinned (.plain (OpenSpec.ofChange worldJoinsSpec)) worldJoinsCard

/-- THE TIED CARD OF 'pleachlaw22.WorldSays'. -/
def worldSaysCard : Claim7 := { stood := { row := worldSaysRow, standIns := [], harness := (true, "2112ad3626a827e0cbe35b17d7b6befefdf8e6d02820e9e470b91b3a23a33611"), looks := true }, kinds := [], alts := [], laidByText := true, laidKinds := [.data, .pinned], laidTests := true, laidLooks := .later }
def WorldSaysCardSaid : Prop := Claim7.holds Tryz.pinned (.plain (OpenSpec.ofChange worldSaysSpec)) worldSaysCard

/-- THE TIED CARD OF 'pleachlaw22.WorldLost'. -/
def worldLostCard : Claim7 := { stood := { row := worldLostRow, standIns := [], harness := (true, "2112ad3626a827e0cbe35b17d7b6befefdf8e6d02820e9e470b91b3a23a33611"), looks := true }, kinds := [], alts := [], laidByText := true, laidKinds := [.data, .pinned], laidTests := true, laidLooks := .later }
def WorldLostCardSaid : Prop := Claim7.holds Tryz.pinned (.plain (OpenSpec.ofChange worldLostSpec)) worldLostCard

/-- THE TIED CARD OF 'pleachlaw23.QuietAll'. -/
def quietAllCard : Claim7 := { stood := { row := quietAllRow, standIns := [], harness := (true, "2112ad3626a827e0cbe35b17d7b6befefdf8e6d02820e9e470b91b3a23a33611"), looks := true }, kinds := [], alts := [], laidByText := true, laidKinds := [.data, .pinned], laidTests := true, laidLooks := .later }
def QuietAllCardSaid : Prop := Claim7.holds Tryz.pinned (.plain (OpenSpec.ofChange quietAllSpec)) quietAllCard

/-- THE TIED CARD OF 'pleachlaw23.QuietSettles'. -/
def quietSettlesCard : Claim7 := { stood := { row := quietSettlesRow, standIns := [], harness := (true, "2112ad3626a827e0cbe35b17d7b6befefdf8e6d02820e9e470b91b3a23a33611"), looks := true }, kinds := [], alts := [], laidByText := true, laidKinds := [.data, .pinned], laidTests := true, laidLooks := .later }
def QuietSettlesCardSaid : Prop := Claim7.holds Tryz.pinned (.plain (OpenSpec.ofChange quietSettlesSpec)) quietSettlesCard

/-- THE TIED CARD OF 'pleachlaw23.QuietLoops'. -/
def quietLoopsCard : Claim7 := { stood := { row := quietLoopsRow, standIns := [], harness := (true, "2112ad3626a827e0cbe35b17d7b6befefdf8e6d02820e9e470b91b3a23a33611"), looks := true }, kinds := [], alts := [], laidByText := true, laidKinds := [.data, .pinned], laidTests := true, laidLooks := .later }
def QuietLoopsCardSaid : Prop := Claim7.holds Tryz.pinned (.plain (OpenSpec.ofChange quietLoopsSpec)) quietLoopsCard

/-- THE TIED CARD OF 'pleachlaw23.QuietForms'. -/
def quietFormsCard : Claim7 := { stood := { row := quietFormsRow, standIns := [], harness := (true, "2112ad3626a827e0cbe35b17d7b6befefdf8e6d02820e9e470b91b3a23a33611"), looks := true }, kinds := [], alts := [], laidByText := true, laidKinds := [.data, .pinned], laidTests := true, laidLooks := .later }
def QuietFormsCardSaid : Prop := Claim7.holds Tryz.pinned (.plain (OpenSpec.ofChange quietFormsSpec)) quietFormsCard

/-- THE TIED CARD OF 'pleachlaw23.QuietEmpties'. -/
def quietEmptiesCard : Claim7 := { stood := { row := quietEmptiesRow, standIns := [], harness := (true, "2112ad3626a827e0cbe35b17d7b6befefdf8e6d02820e9e470b91b3a23a33611"), looks := true }, kinds := [], alts := [], laidByText := true, laidKinds := [.data, .pinned], laidTests := true, laidLooks := .later }
def QuietEmptiesCardSaid : Prop := Claim7.holds Tryz.pinned (.plain (OpenSpec.ofChange quietEmptiesSpec)) quietEmptiesCard

/-- THE TIED CARD OF 'pleachlaw23.QuietStill'. -/
def quietStillCard : Claim7 := { stood := { row := quietStillRow, standIns := [], harness := (true, "2112ad3626a827e0cbe35b17d7b6befefdf8e6d02820e9e470b91b3a23a33611"), looks := true }, kinds := [], alts := [], laidByText := true, laidKinds := [.data, .pinned], laidTests := true, laidLooks := .later }
def QuietStillCardSaid : Prop := Claim7.holds Tryz.pinned (.plain (OpenSpec.ofChange quietStillSpec)) quietStillCard

/-- THE TIED CARD OF 'pleachlaw26.PlayRuns'. -/
def playRunsCard : Claim7 := { stood := { row := playRunsRow, standIns := [], harness := (true, "2112ad3626a827e0cbe35b17d7b6befefdf8e6d02820e9e470b91b3a23a33611"), looks := true }, kinds := [], alts := [], laidByText := true, laidKinds := [.data, .pinned], laidTests := true, laidLooks := .later }
def PlayRunsCardSaid : Prop := Claim7.holds Tryz.pinned (.plain (OpenSpec.ofChange playRunsSpec)) playRunsCard

/-- THE TIED CARD OF 'pleachlaw26.PlayBytes'. -/
def playBytesCard : Claim7 := { stood := { row := playBytesRow, standIns := [], harness := (true, "2112ad3626a827e0cbe35b17d7b6befefdf8e6d02820e9e470b91b3a23a33611"), looks := true }, kinds := [], alts := [], laidByText := true, laidKinds := [.data, .pinned], laidTests := true, laidLooks := .later }
def PlayBytesCardSaid : Prop := Claim7.holds Tryz.pinned (.plain (OpenSpec.ofChange playBytesSpec)) playBytesCard

/-- THE TIED CARD OF 'pleachlaw26.PlayParts'. -/
def playPartsCard : Claim7 := { stood := { row := playPartsRow, standIns := [], harness := (true, "2112ad3626a827e0cbe35b17d7b6befefdf8e6d02820e9e470b91b3a23a33611"), looks := true }, kinds := [], alts := [], laidByText := true, laidKinds := [.data, .pinned], laidTests := true, laidLooks := .later }
def PlayPartsCardSaid : Prop := Claim7.holds Tryz.pinned (.plain (OpenSpec.ofChange playPartsSpec)) playPartsCard

/-- THE TIED CARD OF 'pleachlaw24.TruthInOrder'. -/
def truthInOrderCard : Claim7 := { stood := { row := truthInOrderRow, standIns := [], harness := (true, "2112ad3626a827e0cbe35b17d7b6befefdf8e6d02820e9e470b91b3a23a33611"), looks := true }, kinds := [], alts := [], laidByText := true, laidKinds := [.data, .pinned], laidTests := true, laidLooks := .later }
def TruthInOrderCardSaid : Prop := Claim7.holds Tryz.pinned (.plain (OpenSpec.ofChange truthInOrderSpec)) truthInOrderCard

/-- THE TIED CARD OF 'pleachlaw24.TruthSaid'. -/
def truthSaidCard : Claim7 := { stood := { row := truthSaidRow, standIns := [], harness := (true, "2112ad3626a827e0cbe35b17d7b6befefdf8e6d02820e9e470b91b3a23a33611"), looks := true }, kinds := [], alts := [], laidByText := true, laidKinds := [.data, .pinned], laidTests := true, laidLooks := .later }
def TruthSaidCardSaid : Prop := Claim7.holds Tryz.pinned (.plain (OpenSpec.ofChange truthSaidSpec)) truthSaidCard

/-- THE TIED CARD OF 'pleachlaw24.TruthGrows'. -/
def truthGrowsCard : Claim7 := { stood := { row := truthGrowsRow, standIns := [], harness := (true, "2112ad3626a827e0cbe35b17d7b6befefdf8e6d02820e9e470b91b3a23a33611"), looks := true }, kinds := [], alts := [], laidByText := true, laidKinds := [.data, .pinned], laidTests := true, laidLooks := .later }
def TruthGrowsCardSaid : Prop := Claim7.holds Tryz.pinned (.plain (OpenSpec.ofChange truthGrowsSpec)) truthGrowsCard

/-- THE TIED CARD OF 'pleachtop.TopNew'. -/
def topNewCard : Claim7 := { stood := { row := topNewRow, standIns := [], harness := (true, "2112ad3626a827e0cbe35b17d7b6befefdf8e6d02820e9e470b91b3a23a33611"), looks := true }, kinds := [], alts := [], laidByText := true, laidKinds := [.data, .pinned], laidTests := true, laidLooks := .later }
def TopNewCardSaid : Prop := Claim7.holds Tryz.pinned (.plain (OpenSpec.ofChange topNewSpec)) topNewCard

/-- THE TIED CARD OF 'pleachtop.TopLate'. -/
def topLateCard : Claim7 := { stood := { row := topLateRow, standIns := [], harness := (true, "2112ad3626a827e0cbe35b17d7b6befefdf8e6d02820e9e470b91b3a23a33611"), looks := true }, kinds := [], alts := [], laidByText := true, laidKinds := [.data, .pinned], laidTests := true, laidLooks := .later }
def TopLateCardSaid : Prop := Claim7.holds Tryz.pinned (.plain (OpenSpec.ofChange topLateSpec)) topLateCard

/-- THE TIED CARD OF 'pleachtop.TopFull'. -/
def topFullCard : Claim7 := { stood := { row := topFullRow, standIns := [], harness := (true, "2112ad3626a827e0cbe35b17d7b6befefdf8e6d02820e9e470b91b3a23a33611"), looks := true }, kinds := [], alts := [], laidByText := true, laidKinds := [.data, .pinned], laidTests := true, laidLooks := .later }
def TopFullCardSaid : Prop := Claim7.holds Tryz.pinned (.plain (OpenSpec.ofChange topFullSpec)) topFullCard

/-- THE TIED CARD OF 'pleachtop.TopHeals'. -/
def topHealsCard : Claim7 := { stood := { row := topHealsRow, standIns := [], harness := (true, "2112ad3626a827e0cbe35b17d7b6befefdf8e6d02820e9e470b91b3a23a33611"), looks := true }, kinds := [], alts := [], laidByText := true, laidKinds := [.data, .pinned], laidTests := true, laidLooks := .later }
def TopHealsCardSaid : Prop := Claim7.holds Tryz.pinned (.plain (OpenSpec.ofChange topHealsSpec)) topHealsCard

/-- THE TIED CARD OF 'pleachtop.TopNear'. -/
def topNearCard : Claim7 := { stood := { row := topNearRow, standIns := [], harness := (true, "2112ad3626a827e0cbe35b17d7b6befefdf8e6d02820e9e470b91b3a23a33611"), looks := true }, kinds := [], alts := [], laidByText := true, laidKinds := [.data, .pinned], laidTests := true, laidLooks := .later }
def TopNearCardSaid : Prop := Claim7.holds Tryz.pinned (.plain (OpenSpec.ofChange topNearSpec)) topNearCard

/-- THE TIED CARD OF 'pleachtop.TopDeep'. -/
def topDeepCard : Claim7 := { stood := { row := topDeepRow, standIns := [], harness := (true, "2112ad3626a827e0cbe35b17d7b6befefdf8e6d02820e9e470b91b3a23a33611"), looks := true }, kinds := [], alts := [], laidByText := true, laidKinds := [.data, .pinned], laidTests := true, laidLooks := .later }
def TopDeepCardSaid : Prop := Claim7.holds Tryz.pinned (.plain (OpenSpec.ofChange topDeepSpec)) topDeepCard

/-- THE TIED CARD OF 'pleachtop.TopWhole'. -/
def topWholeCard : Claim7 := { stood := { row := topWholeRow, standIns := [], harness := (true, "2112ad3626a827e0cbe35b17d7b6befefdf8e6d02820e9e470b91b3a23a33611"), looks := true }, kinds := [], alts := [], laidByText := true, laidKinds := [.data, .pinned], laidTests := true, laidLooks := .later }
def TopWholeCardSaid : Prop := Claim7.holds Tryz.pinned (.plain (OpenSpec.ofChange topWholeSpec)) topWholeCard

/-- THE TIED CARD OF 'pleachtop.TopSame'. -/
def topSameCard : Claim7 := { stood := { row := topSameRow, standIns := [], harness := (true, "2112ad3626a827e0cbe35b17d7b6befefdf8e6d02820e9e470b91b3a23a33611"), looks := true }, kinds := [], alts := [], laidByText := true, laidKinds := [.data, .pinned], laidTests := true, laidLooks := .later }
def TopSameCardSaid : Prop := Claim7.holds Tryz.pinned (.plain (OpenSpec.ofChange topSameSpec)) topSameCard

/-- THE SECOND FORM's CARD OF 'pleachlaw22.WorldSent'. -/
def worldSentUptoCard : Claim7 := { stood := { row := worldSentUptoRow, standIns := [], harness := (true, "2112ad3626a827e0cbe35b17d7b6befefdf8e6d02820e9e470b91b3a23a33611"), looks := true }, kinds := [], alts := [], laidByText := true, laidKinds := [.data, .pinned], laidTests := true, laidLooks := .later }
def WorldSentUptoCardSaid : Prop := Claim7.holds Tryz.pinned (.plain (OpenSpec.upto worldSentSpec)) worldSentUptoCard

/-- THE SECOND FORM's CARD OF 'pleachlaw22.WorldForms'. -/
def worldFormsUptoCard : Claim7 := { stood := { row := worldFormsUptoRow, standIns := [], harness := (true, "2112ad3626a827e0cbe35b17d7b6befefdf8e6d02820e9e470b91b3a23a33611"), looks := true }, kinds := [], alts := [], laidByText := true, laidKinds := [.data, .pinned], laidTests := true, laidLooks := .later }
def WorldFormsUptoCardSaid : Prop := Claim7.holds Tryz.pinned (.plain (OpenSpec.upto worldFormsSpec)) worldFormsUptoCard

/-- THE SECOND FORM's CARD OF 'pleachlaw22.WorldJoins'. -/
def worldJoinsUptoCard : Claim7 := { stood := { row := worldJoinsUptoRow, standIns := [], harness := (true, "2112ad3626a827e0cbe35b17d7b6befefdf8e6d02820e9e470b91b3a23a33611"), looks := true }, kinds := [], alts := [], laidByText := true, laidKinds := [.data, .pinned], laidTests := true, laidLooks := .later }
def WorldJoinsUptoCardSaid : Prop := Claim7.holds Tryz.pinned (.plain (OpenSpec.upto worldJoinsSpec)) worldJoinsUptoCard

/-- THE SECOND FORM's CARD OF 'pleachlaw22.WorldSays'. -/
def worldSaysUptoCard : Claim7 := { stood := { row := worldSaysUptoRow, standIns := [], harness := (true, "2112ad3626a827e0cbe35b17d7b6befefdf8e6d02820e9e470b91b3a23a33611"), looks := true }, kinds := [], alts := [], laidByText := true, laidKinds := [.data, .pinned], laidTests := true, laidLooks := .later }
def WorldSaysUptoCardSaid : Prop := Claim7.holds Tryz.pinned (.plain (OpenSpec.upto worldSaysSpec)) worldSaysUptoCard

/-- THE SECOND FORM's CARD OF 'pleachlaw22.WorldLost'. -/
def worldLostUptoCard : Claim7 := { stood := { row := worldLostUptoRow, standIns := [], harness := (true, "2112ad3626a827e0cbe35b17d7b6befefdf8e6d02820e9e470b91b3a23a33611"), looks := true }, kinds := [], alts := [], laidByText := true, laidKinds := [.data, .pinned], laidTests := true, laidLooks := .later }
def WorldLostUptoCardSaid : Prop := Claim7.holds Tryz.pinned (.plain (OpenSpec.upto worldLostSpec)) worldLostUptoCard

/-- THE SECOND FORM's CARD OF 'pleachlaw23.QuietAll'. -/
def quietAllUptoCard : Claim7 := { stood := { row := quietAllUptoRow, standIns := [], harness := (true, "2112ad3626a827e0cbe35b17d7b6befefdf8e6d02820e9e470b91b3a23a33611"), looks := true }, kinds := [], alts := [], laidByText := true, laidKinds := [.data, .pinned], laidTests := true, laidLooks := .later }
def QuietAllUptoCardSaid : Prop := Claim7.holds Tryz.pinned (.plain (OpenSpec.upto quietAllSpec)) quietAllUptoCard

/-- THE SECOND FORM's CARD OF 'pleachlaw23.QuietSettles'. -/
def quietSettlesUptoCard : Claim7 := { stood := { row := quietSettlesUptoRow, standIns := [], harness := (true, "2112ad3626a827e0cbe35b17d7b6befefdf8e6d02820e9e470b91b3a23a33611"), looks := true }, kinds := [], alts := [], laidByText := true, laidKinds := [.data, .pinned], laidTests := true, laidLooks := .later }
def QuietSettlesUptoCardSaid : Prop := Claim7.holds Tryz.pinned (.plain (OpenSpec.upto quietSettlesSpec)) quietSettlesUptoCard

/-- THE SECOND FORM's CARD OF 'pleachlaw23.QuietLoops'. -/
def quietLoopsUptoCard : Claim7 := { stood := { row := quietLoopsUptoRow, standIns := [], harness := (true, "2112ad3626a827e0cbe35b17d7b6befefdf8e6d02820e9e470b91b3a23a33611"), looks := true }, kinds := [], alts := [], laidByText := true, laidKinds := [.data, .pinned], laidTests := true, laidLooks := .later }
def QuietLoopsUptoCardSaid : Prop := Claim7.holds Tryz.pinned (.plain (OpenSpec.upto quietLoopsSpec)) quietLoopsUptoCard

/-- THE SECOND FORM's CARD OF 'pleachlaw23.QuietForms'. -/
def quietFormsUptoCard : Claim7 := { stood := { row := quietFormsUptoRow, standIns := [], harness := (true, "2112ad3626a827e0cbe35b17d7b6befefdf8e6d02820e9e470b91b3a23a33611"), looks := true }, kinds := [], alts := [], laidByText := true, laidKinds := [.data, .pinned], laidTests := true, laidLooks := .later }
def QuietFormsUptoCardSaid : Prop := Claim7.holds Tryz.pinned (.plain (OpenSpec.upto quietFormsSpec)) quietFormsUptoCard

/-- THE SECOND FORM's CARD OF 'pleachlaw23.QuietEmpties'. -/
def quietEmptiesUptoCard : Claim7 := { stood := { row := quietEmptiesUptoRow, standIns := [], harness := (true, "2112ad3626a827e0cbe35b17d7b6befefdf8e6d02820e9e470b91b3a23a33611"), looks := true }, kinds := [], alts := [], laidByText := true, laidKinds := [.data, .pinned], laidTests := true, laidLooks := .later }
def QuietEmptiesUptoCardSaid : Prop := Claim7.holds Tryz.pinned (.plain (OpenSpec.upto quietEmptiesSpec)) quietEmptiesUptoCard

/-- THE SECOND FORM's CARD OF 'pleachlaw23.QuietStill'. -/
def quietStillUptoCard : Claim7 := { stood := { row := quietStillUptoRow, standIns := [], harness := (true, "2112ad3626a827e0cbe35b17d7b6befefdf8e6d02820e9e470b91b3a23a33611"), looks := true }, kinds := [], alts := [], laidByText := true, laidKinds := [.data, .pinned], laidTests := true, laidLooks := .later }
def QuietStillUptoCardSaid : Prop := Claim7.holds Tryz.pinned (.plain (OpenSpec.upto quietStillSpec)) quietStillUptoCard

/-- THE SECOND FORM's CARD OF 'pleachlaw26.PlayRuns'. -/
def playRunsUptoCard : Claim7 := { stood := { row := playRunsUptoRow, standIns := [], harness := (true, "2112ad3626a827e0cbe35b17d7b6befefdf8e6d02820e9e470b91b3a23a33611"), looks := true }, kinds := [], alts := [], laidByText := true, laidKinds := [.data, .pinned], laidTests := true, laidLooks := .later }
def PlayRunsUptoCardSaid : Prop := Claim7.holds Tryz.pinned (.plain (OpenSpec.upto playRunsSpec)) playRunsUptoCard

/-- THE SECOND FORM's CARD OF 'pleachlaw26.PlayBytes'. -/
def playBytesUptoCard : Claim7 := { stood := { row := playBytesUptoRow, standIns := [], harness := (true, "2112ad3626a827e0cbe35b17d7b6befefdf8e6d02820e9e470b91b3a23a33611"), looks := true }, kinds := [], alts := [], laidByText := true, laidKinds := [.data, .pinned], laidTests := true, laidLooks := .later }
def PlayBytesUptoCardSaid : Prop := Claim7.holds Tryz.pinned (.plain (OpenSpec.upto playBytesSpec)) playBytesUptoCard

/-- THE SECOND FORM's CARD OF 'pleachlaw26.PlayParts'. -/
def playPartsUptoCard : Claim7 := { stood := { row := playPartsUptoRow, standIns := [], harness := (true, "2112ad3626a827e0cbe35b17d7b6befefdf8e6d02820e9e470b91b3a23a33611"), looks := true }, kinds := [], alts := [], laidByText := true, laidKinds := [.data, .pinned], laidTests := true, laidLooks := .later }
def PlayPartsUptoCardSaid : Prop := Claim7.holds Tryz.pinned (.plain (OpenSpec.upto playPartsSpec)) playPartsUptoCard

/-- THE SECOND FORM's CARD OF 'pleachlaw24.TruthInOrder'. -/
def truthInOrderUptoCard : Claim7 := { stood := { row := truthInOrderUptoRow, standIns := [], harness := (true, "2112ad3626a827e0cbe35b17d7b6befefdf8e6d02820e9e470b91b3a23a33611"), looks := true }, kinds := [], alts := [], laidByText := true, laidKinds := [.data, .pinned], laidTests := true, laidLooks := .later }
def TruthInOrderUptoCardSaid : Prop := Claim7.holds Tryz.pinned (.plain (OpenSpec.upto truthInOrderSpec)) truthInOrderUptoCard

/-- THE SECOND FORM's CARD OF 'pleachlaw24.TruthSaid'. -/
def truthSaidUptoCard : Claim7 := { stood := { row := truthSaidUptoRow, standIns := [], harness := (true, "2112ad3626a827e0cbe35b17d7b6befefdf8e6d02820e9e470b91b3a23a33611"), looks := true }, kinds := [], alts := [], laidByText := true, laidKinds := [.data, .pinned], laidTests := true, laidLooks := .later }
def TruthSaidUptoCardSaid : Prop := Claim7.holds Tryz.pinned (.plain (OpenSpec.upto truthSaidSpec)) truthSaidUptoCard

/-- THE SECOND FORM's CARD OF 'pleachlaw24.TruthGrows'. -/
def truthGrowsUptoCard : Claim7 := { stood := { row := truthGrowsUptoRow, standIns := [], harness := (true, "2112ad3626a827e0cbe35b17d7b6befefdf8e6d02820e9e470b91b3a23a33611"), looks := true }, kinds := [], alts := [], laidByText := true, laidKinds := [.data, .pinned], laidTests := true, laidLooks := .later }
def TruthGrowsUptoCardSaid : Prop := Claim7.holds Tryz.pinned (.plain (OpenSpec.upto truthGrowsSpec)) truthGrowsUptoCard

/-- THE SECOND FORM's CARD OF 'pleachtop.TopNew'. -/
def topNewUptoCard : Claim7 := { stood := { row := topNewUptoRow, standIns := [], harness := (true, "2112ad3626a827e0cbe35b17d7b6befefdf8e6d02820e9e470b91b3a23a33611"), looks := true }, kinds := [], alts := [], laidByText := true, laidKinds := [.data, .pinned], laidTests := true, laidLooks := .later }
def TopNewUptoCardSaid : Prop := Claim7.holds Tryz.pinned (.plain (OpenSpec.upto topNewSpec)) topNewUptoCard

/-- THE SECOND FORM's CARD OF 'pleachtop.TopLate'. -/
def topLateUptoCard : Claim7 := { stood := { row := topLateUptoRow, standIns := [], harness := (true, "2112ad3626a827e0cbe35b17d7b6befefdf8e6d02820e9e470b91b3a23a33611"), looks := true }, kinds := [], alts := [], laidByText := true, laidKinds := [.data, .pinned], laidTests := true, laidLooks := .later }
def TopLateUptoCardSaid : Prop := Claim7.holds Tryz.pinned (.plain (OpenSpec.upto topLateSpec)) topLateUptoCard

/-- THE SECOND FORM's CARD OF 'pleachtop.TopFull'. -/
def topFullUptoCard : Claim7 := { stood := { row := topFullUptoRow, standIns := [], harness := (true, "2112ad3626a827e0cbe35b17d7b6befefdf8e6d02820e9e470b91b3a23a33611"), looks := true }, kinds := [], alts := [], laidByText := true, laidKinds := [.data, .pinned], laidTests := true, laidLooks := .later }
def TopFullUptoCardSaid : Prop := Claim7.holds Tryz.pinned (.plain (OpenSpec.upto topFullSpec)) topFullUptoCard

/-- THE SECOND FORM's CARD OF 'pleachtop.TopHeals'. -/
def topHealsUptoCard : Claim7 := { stood := { row := topHealsUptoRow, standIns := [], harness := (true, "2112ad3626a827e0cbe35b17d7b6befefdf8e6d02820e9e470b91b3a23a33611"), looks := true }, kinds := [], alts := [], laidByText := true, laidKinds := [.data, .pinned], laidTests := true, laidLooks := .later }
def TopHealsUptoCardSaid : Prop := Claim7.holds Tryz.pinned (.plain (OpenSpec.upto topHealsSpec)) topHealsUptoCard

/-- THE SECOND FORM's CARD OF 'pleachtop.TopNear'. -/
def topNearUptoCard : Claim7 := { stood := { row := topNearUptoRow, standIns := [], harness := (true, "2112ad3626a827e0cbe35b17d7b6befefdf8e6d02820e9e470b91b3a23a33611"), looks := true }, kinds := [], alts := [], laidByText := true, laidKinds := [.data, .pinned], laidTests := true, laidLooks := .later }
def TopNearUptoCardSaid : Prop := Claim7.holds Tryz.pinned (.plain (OpenSpec.upto topNearSpec)) topNearUptoCard

/-- THE SECOND FORM's CARD OF 'pleachtop.TopDeep'. -/
def topDeepUptoCard : Claim7 := { stood := { row := topDeepUptoRow, standIns := [], harness := (true, "2112ad3626a827e0cbe35b17d7b6befefdf8e6d02820e9e470b91b3a23a33611"), looks := true }, kinds := [], alts := [], laidByText := true, laidKinds := [.data, .pinned], laidTests := true, laidLooks := .later }
def TopDeepUptoCardSaid : Prop := Claim7.holds Tryz.pinned (.plain (OpenSpec.upto topDeepSpec)) topDeepUptoCard

/-- THE SECOND FORM's CARD OF 'pleachtop.TopWhole'. -/
def topWholeUptoCard : Claim7 := { stood := { row := topWholeUptoRow, standIns := [], harness := (true, "2112ad3626a827e0cbe35b17d7b6befefdf8e6d02820e9e470b91b3a23a33611"), looks := true }, kinds := [], alts := [], laidByText := true, laidKinds := [.data, .pinned], laidTests := true, laidLooks := .later }
def TopWholeUptoCardSaid : Prop := Claim7.holds Tryz.pinned (.plain (OpenSpec.upto topWholeSpec)) topWholeUptoCard

/-- THE SECOND FORM's CARD OF 'pleachtop.TopSame'. -/
def topSameUptoCard : Claim7 := { stood := { row := topSameUptoRow, standIns := [], harness := (true, "2112ad3626a827e0cbe35b17d7b6befefdf8e6d02820e9e470b91b3a23a33611"), looks := true }, kinds := [], alts := [], laidByText := true, laidKinds := [.data, .pinned], laidTests := true, laidLooks := .later }
def TopSameUptoCardSaid : Prop := Claim7.holds Tryz.pinned (.plain (OpenSpec.upto topSameSpec)) topSameUptoCard
end Rows
end Go.Proofs.YtkaaolegkffckaaGreatDoor
