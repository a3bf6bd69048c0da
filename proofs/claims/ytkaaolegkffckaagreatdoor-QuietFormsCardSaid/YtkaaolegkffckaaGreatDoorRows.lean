/-
  NARROWER THAN 'FOR EVERY INPUT', by the rows' own cells (each row's printed sentence says how): WorldSent: laid · WorldForms: laid · WorldJoins: laid · WorldSays: laid · WorldLost: laid · QuietAll: laid · QuietSettles: laid · QuietLoops: laid · QuietForms: laid · QuietEmpties: laid · QuietStill: laid · PlayRuns: laid · PlayBytes: laid · PlayParts: laid · TruthInOrder: laid · TruthSaid: laid · TruthGrows: laid · TopNew: laid · TopLate: laid · TopFull: laid · TopHeals: laid · TopNear: laid · TopDeep: laid · TopWhole: laid · TopSame: laid.
  DERIVED. THE GIVEN ROWS OF THIS SEAT. 25 by the template 'for every input the law returns true; each argument reads behind the call as it read before'; 0 by the template 'total and deterministic' (their statements: YtkaaolegkffckaaGreatDoorTotals.lean).
  GIVEN WITH THE SEED: the statements are not yours to turn. If you find one false, say at which input.
  Laid BY PROGRAM, IN A SANDBOX (cutbox-rows.mjs): the forced cells as the released guide's own fill.sh prints them over the translation 60e1d7900b907dcb… (all of the seat's roots in one cut). By AI agents, Wed Nov 11 2026. No macro, syntax, notation, axiom, sorry.
-/
import Derived.Test.YtkaaolegkffckaaGreatDoorChecked
import GoSem.PinnedTables
import GoSem.Claim
import GoSem.ClaimJoined
import GoSem.ClaimMapViews
import Derived.JoinedTies
import Derived.KernelRfl
namespace Go.Proofs.YtkaaolegkffckaaGreatDoor
/- THE CELL 'sum', in the pinned program and in every row, IS THE sha256 OF THE DUMP (.gsa) THAT YtkaaolegkffckaaGreatDoorProg.lean LOADS. Nothing in Lean hashes anything: it is a label: what it is worth is what the hold of that sum in a sandbox is worth. -/
noncomputable def Tryz.pinned : Pinned := { name := "ytkaaolegkffckaagreatdoor", sum := "60e1d7900b907dcb42e3e3b776b65b034c06584bc98fac3aafb8f72a3a862b8f", checked := Tryz.checked }
namespace Rows
def none {H : Type} : Left H := { results := [], args := [] }

/- WHAT THE LISTED PACKAGE-LEVEL VARIABLES READ AS WHEN THE CALL BEGINS. Each datum BY PROGRAM (the guide's laid-datum.mjs) off the statement by which the dump's own 'gosem.cut.vars' lays the variable. In a bare row this is a premise. The card (YtkaaolegkffckaaGreatDoorCards.lean) ties it to the program's text. -/
def laid_unicode_utf8_acceptRanges {H : Type} : DataW H := .agg [.agg [.lit (.int .u8 128), .lit (.int .u8 191)], .agg [.lit (.int .u8 160), .lit (.int .u8 191)], .agg [.lit (.int .u8 128), .lit (.int .u8 159)], .agg [.lit (.int .u8 144), .lit (.int .u8 191)], .agg [.lit (.int .u8 128), .lit (.int .u8 143)], .agg [.lit (.int .u8 0), .lit (.int .u8 0)], .agg [.lit (.int .u8 0), .lit (.int .u8 0)], .agg [.lit (.int .u8 0), .lit (.int .u8 0)], .agg [.lit (.int .u8 0), .lit (.int .u8 0)], .agg [.lit (.int .u8 0), .lit (.int .u8 0)], .agg [.lit (.int .u8 0), .lit (.int .u8 0)], .agg [.lit (.int .u8 0), .lit (.int .u8 0)], .agg [.lit (.int .u8 0), .lit (.int .u8 0)], .agg [.lit (.int .u8 0), .lit (.int .u8 0)], .agg [.lit (.int .u8 0), .lit (.int .u8 0)], .agg [.lit (.int .u8 0), .lit (.int .u8 0)]]
/-- One of Go's own tables, pinned by name: the form's constant. -/
def laid_unicode_utf8_first : DataW Unit := Go.Pinned.utf8First

/-- 'pleachlaw22.WorldSent': WHATEVER THE INPUT: true; the input reads as it did. -/
def worldSentSpec : ChangeSpec := { name := "worldSent", fn := fun _ => fun
  | [d1, d2] => { results := [.lit (.bool true)], args := [d1, d2] }
  | _ => none }
def worldSentRow : OpenClaim := { program := "ytkaaolegkffckaagreatdoor", sum := "60e1d7900b907dcb42e3e3b776b65b034c06584bc98fac3aafb8f72a3a862b8f", func := "pleach/pleachlaw22.WorldSent", spec := "worldSent", inPlace := ["slices.overlaps[pleach/api.Kid]", "slices.overlaps[pleach/api.Item]"], unfollowed := true, recurses := true, named := ["unicode/utf8.first", "unicode/utf8.acceptRanges"], apart := false, laid := [("unicode/utf8.acceptRanges", laid_unicode_utf8_acceptRanges), ("unicode/utf8.first", laid_unicode_utf8_first)] }
def WorldSentSaid : Prop := worldSentRow.holds Tryz.pinned (OpenSpec.ofChange worldSentSpec)

/-- ITS FALSE NEIGHBOUR: 'it returns false'. Refute it at one input. -/
def worldSentWrong : ChangeSpec := { name := "worldSent", fn := fun _ => fun
  | [d1, d2] => { results := [.lit (.bool false)], args := [d1, d2] }
  | _ => none }
def WorldSentWrongFalsely : Prop := worldSentRow.holds Tryz.pinned (OpenSpec.ofChange worldSentWrong)

/-- 'pleachlaw22.WorldForms': WHATEVER THE INPUT: true; the input reads as it did. -/
def worldFormsSpec : ChangeSpec := { name := "worldForms", fn := fun _ => fun
  | [] => { results := [.lit (.bool true)], args := [] }
  | _ => none }
def worldFormsRow : OpenClaim := { program := "ytkaaolegkffckaagreatdoor", sum := "60e1d7900b907dcb42e3e3b776b65b034c06584bc98fac3aafb8f72a3a862b8f", func := "pleach/pleachlaw22.WorldForms", spec := "worldForms", inPlace := ["slices.overlaps[pleach/api.Kid]", "slices.overlaps[pleach/api.Item]"], unfollowed := true, recurses := true, named := ["unicode/utf8.first", "unicode/utf8.acceptRanges"], apart := false, laid := [("unicode/utf8.acceptRanges", laid_unicode_utf8_acceptRanges), ("unicode/utf8.first", laid_unicode_utf8_first)] }
def WorldFormsSaid : Prop := worldFormsRow.holds Tryz.pinned (OpenSpec.ofChange worldFormsSpec)

/-- ITS FALSE NEIGHBOUR: 'it returns false'. Refute it at one input. -/
def worldFormsWrong : ChangeSpec := { name := "worldForms", fn := fun _ => fun
  | [] => { results := [.lit (.bool false)], args := [] }
  | _ => none }
def WorldFormsWrongFalsely : Prop := worldFormsRow.holds Tryz.pinned (OpenSpec.ofChange worldFormsWrong)

/-- 'pleachlaw22.WorldJoins': WHATEVER THE INPUT: true; the input reads as it did. -/
def worldJoinsSpec : ChangeSpec := { name := "worldJoins", fn := fun _ => fun
  | [d1, d2] => { results := [.lit (.bool true)], args := [d1, d2] }
  | _ => none }
def worldJoinsRow : OpenClaim := { program := "ytkaaolegkffckaagreatdoor", sum := "60e1d7900b907dcb42e3e3b776b65b034c06584bc98fac3aafb8f72a3a862b8f", func := "pleach/pleachlaw22.WorldJoins", spec := "worldJoins", inPlace := ["slices.overlaps[pleach/api.Kid]", "slices.overlaps[pleach/api.Item]"], unfollowed := true, recurses := true, named := ["unicode/utf8.first", "unicode/utf8.acceptRanges"], apart := false, laid := [("unicode/utf8.acceptRanges", laid_unicode_utf8_acceptRanges), ("unicode/utf8.first", laid_unicode_utf8_first)] }
def WorldJoinsSaid : Prop := worldJoinsRow.holds Tryz.pinned (OpenSpec.ofChange worldJoinsSpec)

/-- ITS FALSE NEIGHBOUR: 'it returns false'. Refute it at one input. -/
def worldJoinsWrong : ChangeSpec := { name := "worldJoins", fn := fun _ => fun
  | [d1, d2] => { results := [.lit (.bool false)], args := [d1, d2] }
  | _ => none }
def WorldJoinsWrongFalsely : Prop := worldJoinsRow.holds Tryz.pinned (OpenSpec.ofChange worldJoinsWrong)

/-- 'pleachlaw22.WorldSays': WHATEVER THE INPUT: true; the input reads as it did. -/
def worldSaysSpec : ChangeSpec := { name := "worldSays", fn := fun _ => fun
  | [d1, d2] => { results := [.lit (.bool true)], args := [d1, d2] }
  | _ => none }
def worldSaysRow : OpenClaim := { program := "ytkaaolegkffckaagreatdoor", sum := "60e1d7900b907dcb42e3e3b776b65b034c06584bc98fac3aafb8f72a3a862b8f", func := "pleach/pleachlaw22.WorldSays", spec := "worldSays", inPlace := ["slices.overlaps[pleach/api.Kid]", "slices.overlaps[pleach/api.Item]"], unfollowed := true, recurses := true, named := ["unicode/utf8.first", "unicode/utf8.acceptRanges"], apart := false, laid := [("unicode/utf8.acceptRanges", laid_unicode_utf8_acceptRanges), ("unicode/utf8.first", laid_unicode_utf8_first)] }
def WorldSaysSaid : Prop := worldSaysRow.holds Tryz.pinned (OpenSpec.ofChange worldSaysSpec)

/-- ITS FALSE NEIGHBOUR: 'it returns false'. Refute it at one input. -/
def worldSaysWrong : ChangeSpec := { name := "worldSays", fn := fun _ => fun
  | [d1, d2] => { results := [.lit (.bool false)], args := [d1, d2] }
  | _ => none }
def WorldSaysWrongFalsely : Prop := worldSaysRow.holds Tryz.pinned (OpenSpec.ofChange worldSaysWrong)

/-- 'pleachlaw22.WorldLost': WHATEVER THE INPUT: true; the input reads as it did. -/
def worldLostSpec : ChangeSpec := { name := "worldLost", fn := fun _ => fun
  | [d1, d2, d3] => { results := [.lit (.bool true)], args := [d1, d2, d3] }
  | _ => none }
def worldLostRow : OpenClaim := { program := "ytkaaolegkffckaagreatdoor", sum := "60e1d7900b907dcb42e3e3b776b65b034c06584bc98fac3aafb8f72a3a862b8f", func := "pleach/pleachlaw22.WorldLost", spec := "worldLost", inPlace := ["slices.overlaps[pleach/api.Kid]", "slices.overlaps[pleach/api.Item]"], unfollowed := true, recurses := true, named := ["unicode/utf8.first", "unicode/utf8.acceptRanges"], apart := false, laid := [("unicode/utf8.acceptRanges", laid_unicode_utf8_acceptRanges), ("unicode/utf8.first", laid_unicode_utf8_first)] }
def WorldLostSaid : Prop := worldLostRow.holds Tryz.pinned (OpenSpec.ofChange worldLostSpec)

/-- ITS FALSE NEIGHBOUR: 'it returns false'. Refute it at one input. -/
def worldLostWrong : ChangeSpec := { name := "worldLost", fn := fun _ => fun
  | [d1, d2, d3] => { results := [.lit (.bool false)], args := [d1, d2, d3] }
  | _ => none }
def WorldLostWrongFalsely : Prop := worldLostRow.holds Tryz.pinned (OpenSpec.ofChange worldLostWrong)

/-- 'pleachlaw23.QuietAll': WHATEVER THE INPUT: true; the input reads as it did. -/
def quietAllSpec : ChangeSpec := { name := "quietAll", fn := fun _ => fun
  | [d1, d2, d3] => { results := [.lit (.bool true)], args := [d1, d2, d3] }
  | _ => none }
def quietAllRow : OpenClaim := { program := "ytkaaolegkffckaagreatdoor", sum := "60e1d7900b907dcb42e3e3b776b65b034c06584bc98fac3aafb8f72a3a862b8f", func := "pleach/pleachlaw23.QuietAll", spec := "quietAll", inPlace := ["slices.overlaps[pleach/api.Kid]", "slices.overlaps[pleach/api.Item]"], unfollowed := true, recurses := true, named := ["unicode/utf8.first", "unicode/utf8.acceptRanges"], apart := false, laid := [("unicode/utf8.acceptRanges", laid_unicode_utf8_acceptRanges), ("unicode/utf8.first", laid_unicode_utf8_first)] }
def QuietAllSaid : Prop := quietAllRow.holds Tryz.pinned (OpenSpec.ofChange quietAllSpec)

/-- ITS FALSE NEIGHBOUR: 'it returns false'. Refute it at one input. -/
def quietAllWrong : ChangeSpec := { name := "quietAll", fn := fun _ => fun
  | [d1, d2, d3] => { results := [.lit (.bool false)], args := [d1, d2, d3] }
  | _ => none }
def QuietAllWrongFalsely : Prop := quietAllRow.holds Tryz.pinned (OpenSpec.ofChange quietAllWrong)

/-- 'pleachlaw23.QuietSettles': WHATEVER THE INPUT: true; the input reads as it did. -/
def quietSettlesSpec : ChangeSpec := { name := "quietSettles", fn := fun _ => fun
  | [d1, d2, d3] => { results := [.lit (.bool true)], args := [d1, d2, d3] }
  | _ => none }
def quietSettlesRow : OpenClaim := { program := "ytkaaolegkffckaagreatdoor", sum := "60e1d7900b907dcb42e3e3b776b65b034c06584bc98fac3aafb8f72a3a862b8f", func := "pleach/pleachlaw23.QuietSettles", spec := "quietSettles", inPlace := ["slices.overlaps[pleach/api.Kid]", "slices.overlaps[pleach/api.Item]"], unfollowed := true, recurses := true, named := ["unicode/utf8.first", "unicode/utf8.acceptRanges"], apart := false, laid := [("unicode/utf8.acceptRanges", laid_unicode_utf8_acceptRanges), ("unicode/utf8.first", laid_unicode_utf8_first)] }
def QuietSettlesSaid : Prop := quietSettlesRow.holds Tryz.pinned (OpenSpec.ofChange quietSettlesSpec)

/-- ITS FALSE NEIGHBOUR: 'it returns false'. Refute it at one input. -/
def quietSettlesWrong : ChangeSpec := { name := "quietSettles", fn := fun _ => fun
  | [d1, d2, d3] => { results := [.lit (.bool false)], args := [d1, d2, d3] }
  | _ => none }
def QuietSettlesWrongFalsely : Prop := quietSettlesRow.holds Tryz.pinned (OpenSpec.ofChange quietSettlesWrong)

/-- 'pleachlaw23.QuietLoops': WHATEVER THE INPUT: true; the input reads as it did. -/
def quietLoopsSpec : ChangeSpec := { name := "quietLoops", fn := fun _ => fun
  | [d1, d2] => { results := [.lit (.bool true)], args := [d1, d2] }
  | _ => none }
def quietLoopsRow : OpenClaim := { program := "ytkaaolegkffckaagreatdoor", sum := "60e1d7900b907dcb42e3e3b776b65b034c06584bc98fac3aafb8f72a3a862b8f", func := "pleach/pleachlaw23.QuietLoops", spec := "quietLoops", inPlace := ["slices.overlaps[pleach/api.Kid]", "slices.overlaps[pleach/api.Item]"], unfollowed := true, recurses := true, named := ["unicode/utf8.first", "unicode/utf8.acceptRanges"], apart := false, laid := [("unicode/utf8.acceptRanges", laid_unicode_utf8_acceptRanges), ("unicode/utf8.first", laid_unicode_utf8_first)] }
def QuietLoopsSaid : Prop := quietLoopsRow.holds Tryz.pinned (OpenSpec.ofChange quietLoopsSpec)

/-- ITS FALSE NEIGHBOUR: 'it returns false'. Refute it at one input. -/
def quietLoopsWrong : ChangeSpec := { name := "quietLoops", fn := fun _ => fun
  | [d1, d2] => { results := [.lit (.bool false)], args := [d1, d2] }
  | _ => none }
def QuietLoopsWrongFalsely : Prop := quietLoopsRow.holds Tryz.pinned (OpenSpec.ofChange quietLoopsWrong)

/-- 'pleachlaw23.QuietForms': WHATEVER THE INPUT: true; the input reads as it did. -/
def quietFormsSpec : ChangeSpec := { name := "quietForms", fn := fun _ => fun
  | [] => { results := [.lit (.bool true)], args := [] }
  | _ => none }
def quietFormsRow : OpenClaim := { program := "ytkaaolegkffckaagreatdoor", sum := "60e1d7900b907dcb42e3e3b776b65b034c06584bc98fac3aafb8f72a3a862b8f", func := "pleach/pleachlaw23.QuietForms", spec := "quietForms", inPlace := ["slices.overlaps[pleach/api.Kid]", "slices.overlaps[pleach/api.Item]"], unfollowed := true, recurses := true, named := ["unicode/utf8.first", "unicode/utf8.acceptRanges"], apart := false, laid := [("unicode/utf8.acceptRanges", laid_unicode_utf8_acceptRanges), ("unicode/utf8.first", laid_unicode_utf8_first)] }
def QuietFormsSaid : Prop := quietFormsRow.holds Tryz.pinned (OpenSpec.ofChange quietFormsSpec)

/-- ITS FALSE NEIGHBOUR: 'it returns false'. Refute it at one input. -/
def quietFormsWrong : ChangeSpec := { name := "quietForms", fn := fun _ => fun
  | [] => { results := [.lit (.bool false)], args := [] }
  | _ => none }
def QuietFormsWrongFalsely : Prop := quietFormsRow.holds Tryz.pinned (OpenSpec.ofChange quietFormsWrong)

/-- 'pleachlaw23.QuietEmpties': WHATEVER THE INPUT: true; the input reads as it did. -/
def quietEmptiesSpec : ChangeSpec := { name := "quietEmpties", fn := fun _ => fun
  | [d1, d2] => { results := [.lit (.bool true)], args := [d1, d2] }
  | _ => none }
def quietEmptiesRow : OpenClaim := { program := "ytkaaolegkffckaagreatdoor", sum := "60e1d7900b907dcb42e3e3b776b65b034c06584bc98fac3aafb8f72a3a862b8f", func := "pleach/pleachlaw23.QuietEmpties", spec := "quietEmpties", inPlace := ["slices.overlaps[pleach/api.Kid]", "slices.overlaps[pleach/api.Item]"], unfollowed := true, recurses := true, named := ["unicode/utf8.first", "unicode/utf8.acceptRanges"], apart := false, laid := [("unicode/utf8.acceptRanges", laid_unicode_utf8_acceptRanges), ("unicode/utf8.first", laid_unicode_utf8_first)] }
def QuietEmptiesSaid : Prop := quietEmptiesRow.holds Tryz.pinned (OpenSpec.ofChange quietEmptiesSpec)

/-- ITS FALSE NEIGHBOUR: 'it returns false'. Refute it at one input. -/
def quietEmptiesWrong : ChangeSpec := { name := "quietEmpties", fn := fun _ => fun
  | [d1, d2] => { results := [.lit (.bool false)], args := [d1, d2] }
  | _ => none }
def QuietEmptiesWrongFalsely : Prop := quietEmptiesRow.holds Tryz.pinned (OpenSpec.ofChange quietEmptiesWrong)

/-- 'pleachlaw23.QuietStill': WHATEVER THE INPUT: true; the input reads as it did. -/
def quietStillSpec : ChangeSpec := { name := "quietStill", fn := fun _ => fun
  | [d1, d2, d3] => { results := [.lit (.bool true)], args := [d1, d2, d3] }
  | _ => none }
def quietStillRow : OpenClaim := { program := "ytkaaolegkffckaagreatdoor", sum := "60e1d7900b907dcb42e3e3b776b65b034c06584bc98fac3aafb8f72a3a862b8f", func := "pleach/pleachlaw23.QuietStill", spec := "quietStill", inPlace := ["slices.overlaps[pleach/api.Kid]", "slices.overlaps[pleach/api.Item]"], unfollowed := true, recurses := true, named := ["unicode/utf8.first", "unicode/utf8.acceptRanges"], apart := false, laid := [("unicode/utf8.acceptRanges", laid_unicode_utf8_acceptRanges), ("unicode/utf8.first", laid_unicode_utf8_first)] }
def QuietStillSaid : Prop := quietStillRow.holds Tryz.pinned (OpenSpec.ofChange quietStillSpec)

/-- ITS FALSE NEIGHBOUR: 'it returns false'. Refute it at one input. -/
def quietStillWrong : ChangeSpec := { name := "quietStill", fn := fun _ => fun
  | [d1, d2, d3] => { results := [.lit (.bool false)], args := [d1, d2, d3] }
  | _ => none }
def QuietStillWrongFalsely : Prop := quietStillRow.holds Tryz.pinned (OpenSpec.ofChange quietStillWrong)

/-- 'pleachlaw26.PlayRuns': WHATEVER THE INPUT: true; the input reads as it did. -/
def playRunsSpec : ChangeSpec := { name := "playRuns", fn := fun _ => fun
  | [d1, d2, d3, d4] => { results := [.lit (.bool true)], args := [d1, d2, d3, d4] }
  | _ => none }
def playRunsRow : OpenClaim := { program := "ytkaaolegkffckaagreatdoor", sum := "60e1d7900b907dcb42e3e3b776b65b034c06584bc98fac3aafb8f72a3a862b8f", func := "pleach/pleachlaw26.PlayRuns", spec := "playRuns", inPlace := ["slices.overlaps[pleach/api.Kid]", "slices.overlaps[pleach/api.Item]"], unfollowed := true, recurses := true, named := ["unicode/utf8.first", "unicode/utf8.acceptRanges"], apart := false, laid := [("unicode/utf8.acceptRanges", laid_unicode_utf8_acceptRanges), ("unicode/utf8.first", laid_unicode_utf8_first)] }
def PlayRunsSaid : Prop := playRunsRow.holds Tryz.pinned (OpenSpec.ofChange playRunsSpec)

/-- ITS FALSE NEIGHBOUR: 'it returns false'. Refute it at one input. -/
def playRunsWrong : ChangeSpec := { name := "playRuns", fn := fun _ => fun
  | [d1, d2, d3, d4] => { results := [.lit (.bool false)], args := [d1, d2, d3, d4] }
  | _ => none }
def PlayRunsWrongFalsely : Prop := playRunsRow.holds Tryz.pinned (OpenSpec.ofChange playRunsWrong)

/-- 'pleachlaw26.PlayBytes': WHATEVER THE INPUT: true; the input reads as it did. -/
def playBytesSpec : ChangeSpec := { name := "playBytes", fn := fun _ => fun
  | [d1, d2] => { results := [.lit (.bool true)], args := [d1, d2] }
  | _ => none }
def playBytesRow : OpenClaim := { program := "ytkaaolegkffckaagreatdoor", sum := "60e1d7900b907dcb42e3e3b776b65b034c06584bc98fac3aafb8f72a3a862b8f", func := "pleach/pleachlaw26.PlayBytes", spec := "playBytes", inPlace := ["slices.overlaps[pleach/api.Kid]", "slices.overlaps[pleach/api.Item]"], unfollowed := true, recurses := true, named := ["unicode/utf8.first", "unicode/utf8.acceptRanges"], apart := false, laid := [("unicode/utf8.acceptRanges", laid_unicode_utf8_acceptRanges), ("unicode/utf8.first", laid_unicode_utf8_first)] }
def PlayBytesSaid : Prop := playBytesRow.holds Tryz.pinned (OpenSpec.ofChange playBytesSpec)

/-- ITS FALSE NEIGHBOUR: 'it returns false'. Refute it at one input. -/
def playBytesWrong : ChangeSpec := { name := "playBytes", fn := fun _ => fun
  | [d1, d2] => { results := [.lit (.bool false)], args := [d1, d2] }
  | _ => none }
def PlayBytesWrongFalsely : Prop := playBytesRow.holds Tryz.pinned (OpenSpec.ofChange playBytesWrong)

/-- 'pleachlaw26.PlayParts': WHATEVER THE INPUT: true; the input reads as it did. -/
def playPartsSpec : ChangeSpec := { name := "playParts", fn := fun _ => fun
  | [d1, d2, d3] => { results := [.lit (.bool true)], args := [d1, d2, d3] }
  | _ => none }
def playPartsRow : OpenClaim := { program := "ytkaaolegkffckaagreatdoor", sum := "60e1d7900b907dcb42e3e3b776b65b034c06584bc98fac3aafb8f72a3a862b8f", func := "pleach/pleachlaw26.PlayParts", spec := "playParts", inPlace := ["slices.overlaps[pleach/api.Kid]", "slices.overlaps[pleach/api.Item]"], unfollowed := true, recurses := true, named := ["unicode/utf8.first", "unicode/utf8.acceptRanges"], apart := false, laid := [("unicode/utf8.acceptRanges", laid_unicode_utf8_acceptRanges), ("unicode/utf8.first", laid_unicode_utf8_first)] }
def PlayPartsSaid : Prop := playPartsRow.holds Tryz.pinned (OpenSpec.ofChange playPartsSpec)

/-- ITS FALSE NEIGHBOUR: 'it returns false'. Refute it at one input. -/
def playPartsWrong : ChangeSpec := { name := "playParts", fn := fun _ => fun
  | [d1, d2, d3] => { results := [.lit (.bool false)], args := [d1, d2, d3] }
  | _ => none }
def PlayPartsWrongFalsely : Prop := playPartsRow.holds Tryz.pinned (OpenSpec.ofChange playPartsWrong)

/-- 'pleachlaw24.TruthInOrder': WHATEVER THE INPUT: true; the input reads as it did. -/
def truthInOrderSpec : ChangeSpec := { name := "truthInOrder", fn := fun _ => fun
  | [d1, d2] => { results := [.lit (.bool true)], args := [d1, d2] }
  | _ => none }
def truthInOrderRow : OpenClaim := { program := "ytkaaolegkffckaagreatdoor", sum := "60e1d7900b907dcb42e3e3b776b65b034c06584bc98fac3aafb8f72a3a862b8f", func := "pleach/pleachlaw24.TruthInOrder", spec := "truthInOrder", inPlace := ["slices.overlaps[pleach/api.Span]", "slices.overlaps[pleach/api.Kid]", "slices.overlaps[pleach/api.Item]"], unfollowed := true, recurses := true, named := ["unicode/utf8.first", "unicode/utf8.acceptRanges"], apart := false, laid := [("unicode/utf8.acceptRanges", laid_unicode_utf8_acceptRanges), ("unicode/utf8.first", laid_unicode_utf8_first)] }
def TruthInOrderSaid : Prop := truthInOrderRow.holds Tryz.pinned (OpenSpec.ofChange truthInOrderSpec)

/-- ITS FALSE NEIGHBOUR: 'it returns false'. Refute it at one input. -/
def truthInOrderWrong : ChangeSpec := { name := "truthInOrder", fn := fun _ => fun
  | [d1, d2] => { results := [.lit (.bool false)], args := [d1, d2] }
  | _ => none }
def TruthInOrderWrongFalsely : Prop := truthInOrderRow.holds Tryz.pinned (OpenSpec.ofChange truthInOrderWrong)

/-- 'pleachlaw24.TruthSaid': WHATEVER THE INPUT: true; the input reads as it did. -/
def truthSaidSpec : ChangeSpec := { name := "truthSaid", fn := fun _ => fun
  | [d1, d2] => { results := [.lit (.bool true)], args := [d1, d2] }
  | _ => none }
def truthSaidRow : OpenClaim := { program := "ytkaaolegkffckaagreatdoor", sum := "60e1d7900b907dcb42e3e3b776b65b034c06584bc98fac3aafb8f72a3a862b8f", func := "pleach/pleachlaw24.TruthSaid", spec := "truthSaid", inPlace := ["slices.overlaps[pleach/api.Span]", "slices.overlaps[pleach/api.Kid]", "slices.overlaps[pleach/api.Item]"], unfollowed := true, recurses := true, named := ["unicode/utf8.first", "unicode/utf8.acceptRanges"], apart := false, laid := [("unicode/utf8.acceptRanges", laid_unicode_utf8_acceptRanges), ("unicode/utf8.first", laid_unicode_utf8_first)] }
def TruthSaidSaid : Prop := truthSaidRow.holds Tryz.pinned (OpenSpec.ofChange truthSaidSpec)

/-- ITS FALSE NEIGHBOUR: 'it returns false'. Refute it at one input. -/
def truthSaidWrong : ChangeSpec := { name := "truthSaid", fn := fun _ => fun
  | [d1, d2] => { results := [.lit (.bool false)], args := [d1, d2] }
  | _ => none }
def TruthSaidWrongFalsely : Prop := truthSaidRow.holds Tryz.pinned (OpenSpec.ofChange truthSaidWrong)

/-- 'pleachlaw24.TruthGrows': WHATEVER THE INPUT: true; the input reads as it did. -/
def truthGrowsSpec : ChangeSpec := { name := "truthGrows", fn := fun _ => fun
  | [d1, d2] => { results := [.lit (.bool true)], args := [d1, d2] }
  | _ => none }
def truthGrowsRow : OpenClaim := { program := "ytkaaolegkffckaagreatdoor", sum := "60e1d7900b907dcb42e3e3b776b65b034c06584bc98fac3aafb8f72a3a862b8f", func := "pleach/pleachlaw24.TruthGrows", spec := "truthGrows", inPlace := ["slices.overlaps[pleach/api.Span]", "slices.overlaps[pleach/api.Kid]", "slices.overlaps[pleach/api.Item]"], unfollowed := true, recurses := true, named := ["unicode/utf8.first", "unicode/utf8.acceptRanges"], apart := false, laid := [("unicode/utf8.acceptRanges", laid_unicode_utf8_acceptRanges), ("unicode/utf8.first", laid_unicode_utf8_first)] }
def TruthGrowsSaid : Prop := truthGrowsRow.holds Tryz.pinned (OpenSpec.ofChange truthGrowsSpec)

/-- ITS FALSE NEIGHBOUR: 'it returns false'. Refute it at one input. -/
def truthGrowsWrong : ChangeSpec := { name := "truthGrows", fn := fun _ => fun
  | [d1, d2] => { results := [.lit (.bool false)], args := [d1, d2] }
  | _ => none }
def TruthGrowsWrongFalsely : Prop := truthGrowsRow.holds Tryz.pinned (OpenSpec.ofChange truthGrowsWrong)

/-- 'pleachtop.TopNew': WHATEVER THE INPUT: true; the input reads as it did. -/
def topNewSpec : ChangeSpec := { name := "topNew", fn := fun _ => fun
  | [d1, d2] => { results := [.lit (.bool true)], args := [d1, d2] }
  | _ => none }
def topNewRow : OpenClaim := { program := "ytkaaolegkffckaagreatdoor", sum := "60e1d7900b907dcb42e3e3b776b65b034c06584bc98fac3aafb8f72a3a862b8f", func := "pleach/pleachtop.TopNew", spec := "topNew", inPlace := ["slices.overlaps[pleach/api.Kid]", "slices.overlaps[pleach/api.Item]"], unfollowed := true, recurses := true, named := ["unicode/utf8.first", "unicode/utf8.acceptRanges"], apart := false, laid := [("unicode/utf8.acceptRanges", laid_unicode_utf8_acceptRanges), ("unicode/utf8.first", laid_unicode_utf8_first)] }
def TopNewSaid : Prop := topNewRow.holds Tryz.pinned (OpenSpec.ofChange topNewSpec)

/-- ITS FALSE NEIGHBOUR: 'it returns false'. Refute it at one input. -/
def topNewWrong : ChangeSpec := { name := "topNew", fn := fun _ => fun
  | [d1, d2] => { results := [.lit (.bool false)], args := [d1, d2] }
  | _ => none }
def TopNewWrongFalsely : Prop := topNewRow.holds Tryz.pinned (OpenSpec.ofChange topNewWrong)

/-- 'pleachtop.TopLate': WHATEVER THE INPUT: true; the input reads as it did. -/
def topLateSpec : ChangeSpec := { name := "topLate", fn := fun _ => fun
  | [d1, d2] => { results := [.lit (.bool true)], args := [d1, d2] }
  | _ => none }
def topLateRow : OpenClaim := { program := "ytkaaolegkffckaagreatdoor", sum := "60e1d7900b907dcb42e3e3b776b65b034c06584bc98fac3aafb8f72a3a862b8f", func := "pleach/pleachtop.TopLate", spec := "topLate", inPlace := ["slices.overlaps[pleach/api.Kid]", "slices.overlaps[pleach/api.Item]"], unfollowed := true, recurses := true, named := ["unicode/utf8.first", "unicode/utf8.acceptRanges"], apart := false, laid := [("unicode/utf8.acceptRanges", laid_unicode_utf8_acceptRanges), ("unicode/utf8.first", laid_unicode_utf8_first)] }
def TopLateSaid : Prop := topLateRow.holds Tryz.pinned (OpenSpec.ofChange topLateSpec)

/-- ITS FALSE NEIGHBOUR: 'it returns false'. Refute it at one input. -/
def topLateWrong : ChangeSpec := { name := "topLate", fn := fun _ => fun
  | [d1, d2] => { results := [.lit (.bool false)], args := [d1, d2] }
  | _ => none }
def TopLateWrongFalsely : Prop := topLateRow.holds Tryz.pinned (OpenSpec.ofChange topLateWrong)

/-- 'pleachtop.TopFull': WHATEVER THE INPUT: true; the input reads as it did. -/
def topFullSpec : ChangeSpec := { name := "topFull", fn := fun _ => fun
  | [d1, d2] => { results := [.lit (.bool true)], args := [d1, d2] }
  | _ => none }
def topFullRow : OpenClaim := { program := "ytkaaolegkffckaagreatdoor", sum := "60e1d7900b907dcb42e3e3b776b65b034c06584bc98fac3aafb8f72a3a862b8f", func := "pleach/pleachtop.TopFull", spec := "topFull", inPlace := ["slices.overlaps[pleach/api.Kid]", "slices.overlaps[pleach/api.Item]"], unfollowed := true, recurses := true, named := ["unicode/utf8.first", "unicode/utf8.acceptRanges"], apart := false, laid := [("unicode/utf8.acceptRanges", laid_unicode_utf8_acceptRanges), ("unicode/utf8.first", laid_unicode_utf8_first)] }
def TopFullSaid : Prop := topFullRow.holds Tryz.pinned (OpenSpec.ofChange topFullSpec)

/-- ITS FALSE NEIGHBOUR: 'it returns false'. Refute it at one input. -/
def topFullWrong : ChangeSpec := { name := "topFull", fn := fun _ => fun
  | [d1, d2] => { results := [.lit (.bool false)], args := [d1, d2] }
  | _ => none }
def TopFullWrongFalsely : Prop := topFullRow.holds Tryz.pinned (OpenSpec.ofChange topFullWrong)

/-- 'pleachtop.TopHeals': WHATEVER THE INPUT: true; the input reads as it did. -/
def topHealsSpec : ChangeSpec := { name := "topHeals", fn := fun _ => fun
  | [d1, d2, d3] => { results := [.lit (.bool true)], args := [d1, d2, d3] }
  | _ => none }
def topHealsRow : OpenClaim := { program := "ytkaaolegkffckaagreatdoor", sum := "60e1d7900b907dcb42e3e3b776b65b034c06584bc98fac3aafb8f72a3a862b8f", func := "pleach/pleachtop.TopHeals", spec := "topHeals", inPlace := ["slices.overlaps[pleach/api.Kid]", "slices.overlaps[pleach/api.Item]"], unfollowed := true, recurses := true, named := ["unicode/utf8.first", "unicode/utf8.acceptRanges"], apart := false, laid := [("unicode/utf8.acceptRanges", laid_unicode_utf8_acceptRanges), ("unicode/utf8.first", laid_unicode_utf8_first)] }
def TopHealsSaid : Prop := topHealsRow.holds Tryz.pinned (OpenSpec.ofChange topHealsSpec)

/-- ITS FALSE NEIGHBOUR: 'it returns false'. Refute it at one input. -/
def topHealsWrong : ChangeSpec := { name := "topHeals", fn := fun _ => fun
  | [d1, d2, d3] => { results := [.lit (.bool false)], args := [d1, d2, d3] }
  | _ => none }
def TopHealsWrongFalsely : Prop := topHealsRow.holds Tryz.pinned (OpenSpec.ofChange topHealsWrong)

/-- 'pleachtop.TopNear': WHATEVER THE INPUT: true; the input reads as it did. -/
def topNearSpec : ChangeSpec := { name := "topNear", fn := fun _ => fun
  | [d1, d2, d3] => { results := [.lit (.bool true)], args := [d1, d2, d3] }
  | _ => none }
def topNearRow : OpenClaim := { program := "ytkaaolegkffckaagreatdoor", sum := "60e1d7900b907dcb42e3e3b776b65b034c06584bc98fac3aafb8f72a3a862b8f", func := "pleach/pleachtop.TopNear", spec := "topNear", inPlace := ["slices.overlaps[pleach/api.Kid]", "slices.overlaps[pleach/api.Item]"], unfollowed := true, recurses := true, named := ["unicode/utf8.first", "unicode/utf8.acceptRanges"], apart := false, laid := [("unicode/utf8.acceptRanges", laid_unicode_utf8_acceptRanges), ("unicode/utf8.first", laid_unicode_utf8_first)] }
def TopNearSaid : Prop := topNearRow.holds Tryz.pinned (OpenSpec.ofChange topNearSpec)

/-- ITS FALSE NEIGHBOUR: 'it returns false'. Refute it at one input. -/
def topNearWrong : ChangeSpec := { name := "topNear", fn := fun _ => fun
  | [d1, d2, d3] => { results := [.lit (.bool false)], args := [d1, d2, d3] }
  | _ => none }
def TopNearWrongFalsely : Prop := topNearRow.holds Tryz.pinned (OpenSpec.ofChange topNearWrong)

/-- 'pleachtop.TopDeep': WHATEVER THE INPUT: true; the input reads as it did. -/
def topDeepSpec : ChangeSpec := { name := "topDeep", fn := fun _ => fun
  | [d] => { results := [.lit (.bool true)], args := [d] }
  | _ => none }
def topDeepRow : OpenClaim := { program := "ytkaaolegkffckaagreatdoor", sum := "60e1d7900b907dcb42e3e3b776b65b034c06584bc98fac3aafb8f72a3a862b8f", func := "pleach/pleachtop.TopDeep", spec := "topDeep", inPlace := ["slices.overlaps[pleach/api.Kid]", "slices.overlaps[pleach/api.Item]"], unfollowed := true, recurses := true, named := ["unicode/utf8.first", "unicode/utf8.acceptRanges"], apart := false, laid := [("unicode/utf8.acceptRanges", laid_unicode_utf8_acceptRanges), ("unicode/utf8.first", laid_unicode_utf8_first)] }
def TopDeepSaid : Prop := topDeepRow.holds Tryz.pinned (OpenSpec.ofChange topDeepSpec)

/-- ITS FALSE NEIGHBOUR: 'it returns false'. Refute it at one input. -/
def topDeepWrong : ChangeSpec := { name := "topDeep", fn := fun _ => fun
  | [d] => { results := [.lit (.bool false)], args := [d] }
  | _ => none }
def TopDeepWrongFalsely : Prop := topDeepRow.holds Tryz.pinned (OpenSpec.ofChange topDeepWrong)

/-- 'pleachtop.TopWhole': WHATEVER THE INPUT: true; the input reads as it did. -/
def topWholeSpec : ChangeSpec := { name := "topWhole", fn := fun _ => fun
  | [d1, d2] => { results := [.lit (.bool true)], args := [d1, d2] }
  | _ => none }
def topWholeRow : OpenClaim := { program := "ytkaaolegkffckaagreatdoor", sum := "60e1d7900b907dcb42e3e3b776b65b034c06584bc98fac3aafb8f72a3a862b8f", func := "pleach/pleachtop.TopWhole", spec := "topWhole", inPlace := ["slices.overlaps[pleach/api.Kid]", "slices.overlaps[pleach/api.Item]"], unfollowed := true, recurses := true, named := ["unicode/utf8.first", "unicode/utf8.acceptRanges"], apart := false, laid := [("unicode/utf8.acceptRanges", laid_unicode_utf8_acceptRanges), ("unicode/utf8.first", laid_unicode_utf8_first)] }
def TopWholeSaid : Prop := topWholeRow.holds Tryz.pinned (OpenSpec.ofChange topWholeSpec)

/-- ITS FALSE NEIGHBOUR: 'it returns false'. Refute it at one input. -/
def topWholeWrong : ChangeSpec := { name := "topWhole", fn := fun _ => fun
  | [d1, d2] => { results := [.lit (.bool false)], args := [d1, d2] }
  | _ => none }
def TopWholeWrongFalsely : Prop := topWholeRow.holds Tryz.pinned (OpenSpec.ofChange topWholeWrong)

/-- 'pleachtop.TopSame': WHATEVER THE INPUT: true; the input reads as it did. -/
def topSameSpec : ChangeSpec := { name := "topSame", fn := fun _ => fun
  | [d1, d2] => { results := [.lit (.bool true)], args := [d1, d2] }
  | _ => none }
def topSameRow : OpenClaim := { program := "ytkaaolegkffckaagreatdoor", sum := "60e1d7900b907dcb42e3e3b776b65b034c06584bc98fac3aafb8f72a3a862b8f", func := "pleach/pleachtop.TopSame", spec := "topSame", inPlace := ["slices.overlaps[pleach/api.Kid]", "slices.overlaps[pleach/api.Item]"], unfollowed := true, recurses := true, named := ["unicode/utf8.first", "unicode/utf8.acceptRanges"], apart := false, laid := [("unicode/utf8.acceptRanges", laid_unicode_utf8_acceptRanges), ("unicode/utf8.first", laid_unicode_utf8_first)] }
def TopSameSaid : Prop := topSameRow.holds Tryz.pinned (OpenSpec.ofChange topSameSpec)

/-- ITS FALSE NEIGHBOUR: 'it returns false'. Refute it at one input. -/
def topSameWrong : ChangeSpec := { name := "topSame", fn := fun _ => fun
  | [d1, d2] => { results := [.lit (.bool false)], args := [d1, d2] }
  | _ => none }
def TopSameWrongFalsely : Prop := topSameRow.holds Tryz.pinned (OpenSpec.ofChange topSameWrong)

/- THE SECOND FORM. 'bulk': how many values and letters a reading holds, each counted each time it is reached (what is shared counts as often as it is met; a slice's spare places count too). A statement '..UptoSaid' is the law's where the arguments, and the package variables that the reading takes, are together of bulk at most 1048576: NARROWER than '..Said'. Prove '..Said' where nothing that the law and all that it calls make is longer than what came in: it says more and counts as full. Else prove '..UptoSaid'. A law counts once. -/
mutual
def uptoBulk {H : Type} : DataW H → Nat
  | .lit (.string bytes) => bytes.length + 1
  | .lit _ => 1
  | .nil => 1
  | .ptr d => uptoBulk d + 1
  | .slice elems spare => uptoBulkAll elems + uptoBulkAll spare + 1
  | .agg parts => uptoBulkAll parts + 1
  | .iface _ d => uptoBulk d + 1
  | .map entries => uptoBulkEntries entries + 1
  | .held _ => 1
def uptoBulkAll {H : Type} : List (DataW H) → Nat
  | [] => 0
  | d :: r => uptoBulk d + uptoBulkAll r
def uptoBulkEntries {H : Type} : List (Lit × DataW H) → Nat
  | [] => 0
  | x :: r => uptoBulkEntry x + uptoBulkEntries r
def uptoBulkEntry {H : Type} : Lit × DataW H → Nat
  | (.string bytes, d) => bytes.length + uptoBulk d + 1
  | (_, d) => uptoBulk d + 1
 end
def uptoSmall : (H : Type) → List (DataW H) → Bool := fun _ ds => decide (uptoBulkAll ds ≤ 1048576)
def OpenSpec.upto (s : _root_.Go.ChangeSpec) : _root_.Go.OpenSpec := { _root_.Go.OpenSpec.ofChange s with cond := some uptoSmall }

/-- 'pleachlaw22.WorldSent', WHERE WHAT IT READS IS OF BULK AT MOST 1048576: true; the input reads as it did. -/
def worldSentUptoRow : OpenClaim := { program := "ytkaaolegkffckaagreatdoor", sum := "60e1d7900b907dcb42e3e3b776b65b034c06584bc98fac3aafb8f72a3a862b8f", func := "pleach/pleachlaw22.WorldSent", spec := "worldSent", inPlace := ["slices.overlaps[pleach/api.Kid]", "slices.overlaps[pleach/api.Item]"], unfollowed := true, recurses := true, named := ["unicode/utf8.first", "unicode/utf8.acceptRanges"], apart := false, laid := [("unicode/utf8.acceptRanges", laid_unicode_utf8_acceptRanges), ("unicode/utf8.first", laid_unicode_utf8_first)], narrowed := true }
def WorldSentUptoSaid : Prop := worldSentUptoRow.holds Tryz.pinned (OpenSpec.upto worldSentSpec)

/-- 'pleachlaw22.WorldForms', WHERE WHAT IT READS IS OF BULK AT MOST 1048576: true; the input reads as it did. -/
def worldFormsUptoRow : OpenClaim := { program := "ytkaaolegkffckaagreatdoor", sum := "60e1d7900b907dcb42e3e3b776b65b034c06584bc98fac3aafb8f72a3a862b8f", func := "pleach/pleachlaw22.WorldForms", spec := "worldForms", inPlace := ["slices.overlaps[pleach/api.Kid]", "slices.overlaps[pleach/api.Item]"], unfollowed := true, recurses := true, named := ["unicode/utf8.first", "unicode/utf8.acceptRanges"], apart := false, laid := [("unicode/utf8.acceptRanges", laid_unicode_utf8_acceptRanges), ("unicode/utf8.first", laid_unicode_utf8_first)], narrowed := true }
def WorldFormsUptoSaid : Prop := worldFormsUptoRow.holds Tryz.pinned (OpenSpec.upto worldFormsSpec)

/-- 'pleachlaw22.WorldJoins', WHERE WHAT IT READS IS OF BULK AT MOST 1048576: true; the input reads as it did. -/
def worldJoinsUptoRow : OpenClaim := { program := "ytkaaolegkffckaagreatdoor", sum := "60e1d7900b907dcb42e3e3b776b65b034c06584bc98fac3aafb8f72a3a862b8f", func := "pleach/pleachlaw22.WorldJoins", spec := "worldJoins", inPlace := ["slices.overlaps[pleach/api.Kid]", "slices.overlaps[pleach/api.Item]"], unfollowed := true, recurses := true, named := ["unicode/utf8.first", "unicode/utf8.acceptRanges"], apart := false, laid := [("unicode/utf8.acceptRanges", laid_unicode_utf8_acceptRanges), ("unicode/utf8.first", laid_unicode_utf8_first)], narrowed := true }
def WorldJoinsUptoSaid : Prop := worldJoinsUptoRow.holds Tryz.pinned (OpenSpec.upto worldJoinsSpec)

/-- 'pleachlaw22.WorldSays', WHERE WHAT IT READS IS OF BULK AT MOST 1048576: true; the input reads as it did. -/
def worldSaysUptoRow : OpenClaim := { program := "ytkaaolegkffckaagreatdoor", sum := "60e1d7900b907dcb42e3e3b776b65b034c06584bc98fac3aafb8f72a3a862b8f", func := "pleach/pleachlaw22.WorldSays", spec := "worldSays", inPlace := ["slices.overlaps[pleach/api.Kid]", "slices.overlaps[pleach/api.Item]"], unfollowed := true, recurses := true, named := ["unicode/utf8.first", "unicode/utf8.acceptRanges"], apart := false, laid := [("unicode/utf8.acceptRanges", laid_unicode_utf8_acceptRanges), ("unicode/utf8.first", laid_unicode_utf8_first)], narrowed := true }
def WorldSaysUptoSaid : Prop := worldSaysUptoRow.holds Tryz.pinned (OpenSpec.upto worldSaysSpec)

/-- 'pleachlaw22.WorldLost', WHERE WHAT IT READS IS OF BULK AT MOST 1048576: true; the input reads as it did. -/
def worldLostUptoRow : OpenClaim := { program := "ytkaaolegkffckaagreatdoor", sum := "60e1d7900b907dcb42e3e3b776b65b034c06584bc98fac3aafb8f72a3a862b8f", func := "pleach/pleachlaw22.WorldLost", spec := "worldLost", inPlace := ["slices.overlaps[pleach/api.Kid]", "slices.overlaps[pleach/api.Item]"], unfollowed := true, recurses := true, named := ["unicode/utf8.first", "unicode/utf8.acceptRanges"], apart := false, laid := [("unicode/utf8.acceptRanges", laid_unicode_utf8_acceptRanges), ("unicode/utf8.first", laid_unicode_utf8_first)], narrowed := true }
def WorldLostUptoSaid : Prop := worldLostUptoRow.holds Tryz.pinned (OpenSpec.upto worldLostSpec)

/-- 'pleachlaw23.QuietAll', WHERE WHAT IT READS IS OF BULK AT MOST 1048576: true; the input reads as it did. -/
def quietAllUptoRow : OpenClaim := { program := "ytkaaolegkffckaagreatdoor", sum := "60e1d7900b907dcb42e3e3b776b65b034c06584bc98fac3aafb8f72a3a862b8f", func := "pleach/pleachlaw23.QuietAll", spec := "quietAll", inPlace := ["slices.overlaps[pleach/api.Kid]", "slices.overlaps[pleach/api.Item]"], unfollowed := true, recurses := true, named := ["unicode/utf8.first", "unicode/utf8.acceptRanges"], apart := false, laid := [("unicode/utf8.acceptRanges", laid_unicode_utf8_acceptRanges), ("unicode/utf8.first", laid_unicode_utf8_first)], narrowed := true }
def QuietAllUptoSaid : Prop := quietAllUptoRow.holds Tryz.pinned (OpenSpec.upto quietAllSpec)

/-- 'pleachlaw23.QuietSettles', WHERE WHAT IT READS IS OF BULK AT MOST 1048576: true; the input reads as it did. -/
def quietSettlesUptoRow : OpenClaim := { program := "ytkaaolegkffckaagreatdoor", sum := "60e1d7900b907dcb42e3e3b776b65b034c06584bc98fac3aafb8f72a3a862b8f", func := "pleach/pleachlaw23.QuietSettles", spec := "quietSettles", inPlace := ["slices.overlaps[pleach/api.Kid]", "slices.overlaps[pleach/api.Item]"], unfollowed := true, recurses := true, named := ["unicode/utf8.first", "unicode/utf8.acceptRanges"], apart := false, laid := [("unicode/utf8.acceptRanges", laid_unicode_utf8_acceptRanges), ("unicode/utf8.first", laid_unicode_utf8_first)], narrowed := true }
def QuietSettlesUptoSaid : Prop := quietSettlesUptoRow.holds Tryz.pinned (OpenSpec.upto quietSettlesSpec)

/-- 'pleachlaw23.QuietLoops', WHERE WHAT IT READS IS OF BULK AT MOST 1048576: true; the input reads as it did. -/
def quietLoopsUptoRow : OpenClaim := { program := "ytkaaolegkffckaagreatdoor", sum := "60e1d7900b907dcb42e3e3b776b65b034c06584bc98fac3aafb8f72a3a862b8f", func := "pleach/pleachlaw23.QuietLoops", spec := "quietLoops", inPlace := ["slices.overlaps[pleach/api.Kid]", "slices.overlaps[pleach/api.Item]"], unfollowed := true, recurses := true, named := ["unicode/utf8.first", "unicode/utf8.acceptRanges"], apart := false, laid := [("unicode/utf8.acceptRanges", laid_unicode_utf8_acceptRanges), ("unicode/utf8.first", laid_unicode_utf8_first)], narrowed := true }
def QuietLoopsUptoSaid : Prop := quietLoopsUptoRow.holds Tryz.pinned (OpenSpec.upto quietLoopsSpec)

/-- 'pleachlaw23.QuietForms', WHERE WHAT IT READS IS OF BULK AT MOST 1048576: true; the input reads as it did. -/
def quietFormsUptoRow : OpenClaim := { program := "ytkaaolegkffckaagreatdoor", sum := "60e1d7900b907dcb42e3e3b776b65b034c06584bc98fac3aafb8f72a3a862b8f", func := "pleach/pleachlaw23.QuietForms", spec := "quietForms", inPlace := ["slices.overlaps[pleach/api.Kid]", "slices.overlaps[pleach/api.Item]"], unfollowed := true, recurses := true, named := ["unicode/utf8.first", "unicode/utf8.acceptRanges"], apart := false, laid := [("unicode/utf8.acceptRanges", laid_unicode_utf8_acceptRanges), ("unicode/utf8.first", laid_unicode_utf8_first)], narrowed := true }
def QuietFormsUptoSaid : Prop := quietFormsUptoRow.holds Tryz.pinned (OpenSpec.upto quietFormsSpec)

/-- 'pleachlaw23.QuietEmpties', WHERE WHAT IT READS IS OF BULK AT MOST 1048576: true; the input reads as it did. -/
def quietEmptiesUptoRow : OpenClaim := { program := "ytkaaolegkffckaagreatdoor", sum := "60e1d7900b907dcb42e3e3b776b65b034c06584bc98fac3aafb8f72a3a862b8f", func := "pleach/pleachlaw23.QuietEmpties", spec := "quietEmpties", inPlace := ["slices.overlaps[pleach/api.Kid]", "slices.overlaps[pleach/api.Item]"], unfollowed := true, recurses := true, named := ["unicode/utf8.first", "unicode/utf8.acceptRanges"], apart := false, laid := [("unicode/utf8.acceptRanges", laid_unicode_utf8_acceptRanges), ("unicode/utf8.first", laid_unicode_utf8_first)], narrowed := true }
def QuietEmptiesUptoSaid : Prop := quietEmptiesUptoRow.holds Tryz.pinned (OpenSpec.upto quietEmptiesSpec)

/-- 'pleachlaw23.QuietStill', WHERE WHAT IT READS IS OF BULK AT MOST 1048576: true; the input reads as it did. -/
def quietStillUptoRow : OpenClaim := { program := "ytkaaolegkffckaagreatdoor", sum := "60e1d7900b907dcb42e3e3b776b65b034c06584bc98fac3aafb8f72a3a862b8f", func := "pleach/pleachlaw23.QuietStill", spec := "quietStill", inPlace := ["slices.overlaps[pleach/api.Kid]", "slices.overlaps[pleach/api.Item]"], unfollowed := true, recurses := true, named := ["unicode/utf8.first", "unicode/utf8.acceptRanges"], apart := false, laid := [("unicode/utf8.acceptRanges", laid_unicode_utf8_acceptRanges), ("unicode/utf8.first", laid_unicode_utf8_first)], narrowed := true }
def QuietStillUptoSaid : Prop := quietStillUptoRow.holds Tryz.pinned (OpenSpec.upto quietStillSpec)

/-- 'pleachlaw26.PlayRuns', WHERE WHAT IT READS IS OF BULK AT MOST 1048576: true; the input reads as it did. -/
def playRunsUptoRow : OpenClaim := { program := "ytkaaolegkffckaagreatdoor", sum := "60e1d7900b907dcb42e3e3b776b65b034c06584bc98fac3aafb8f72a3a862b8f", func := "pleach/pleachlaw26.PlayRuns", spec := "playRuns", inPlace := ["slices.overlaps[pleach/api.Kid]", "slices.overlaps[pleach/api.Item]"], unfollowed := true, recurses := true, named := ["unicode/utf8.first", "unicode/utf8.acceptRanges"], apart := false, laid := [("unicode/utf8.acceptRanges", laid_unicode_utf8_acceptRanges), ("unicode/utf8.first", laid_unicode_utf8_first)], narrowed := true }
def PlayRunsUptoSaid : Prop := playRunsUptoRow.holds Tryz.pinned (OpenSpec.upto playRunsSpec)

/-- 'pleachlaw26.PlayBytes', WHERE WHAT IT READS IS OF BULK AT MOST 1048576: true; the input reads as it did. -/
def playBytesUptoRow : OpenClaim := { program := "ytkaaolegkffckaagreatdoor", sum := "60e1d7900b907dcb42e3e3b776b65b034c06584bc98fac3aafb8f72a3a862b8f", func := "pleach/pleachlaw26.PlayBytes", spec := "playBytes", inPlace := ["slices.overlaps[pleach/api.Kid]", "slices.overlaps[pleach/api.Item]"], unfollowed := true, recurses := true, named := ["unicode/utf8.first", "unicode/utf8.acceptRanges"], apart := false, laid := [("unicode/utf8.acceptRanges", laid_unicode_utf8_acceptRanges), ("unicode/utf8.first", laid_unicode_utf8_first)], narrowed := true }
def PlayBytesUptoSaid : Prop := playBytesUptoRow.holds Tryz.pinned (OpenSpec.upto playBytesSpec)

/-- 'pleachlaw26.PlayParts', WHERE WHAT IT READS IS OF BULK AT MOST 1048576: true; the input reads as it did. -/
def playPartsUptoRow : OpenClaim := { program := "ytkaaolegkffckaagreatdoor", sum := "60e1d7900b907dcb42e3e3b776b65b034c06584bc98fac3aafb8f72a3a862b8f", func := "pleach/pleachlaw26.PlayParts", spec := "playParts", inPlace := ["slices.overlaps[pleach/api.Kid]", "slices.overlaps[pleach/api.Item]"], unfollowed := true, recurses := true, named := ["unicode/utf8.first", "unicode/utf8.acceptRanges"], apart := false, laid := [("unicode/utf8.acceptRanges", laid_unicode_utf8_acceptRanges), ("unicode/utf8.first", laid_unicode_utf8_first)], narrowed := true }
def PlayPartsUptoSaid : Prop := playPartsUptoRow.holds Tryz.pinned (OpenSpec.upto playPartsSpec)

/-- 'pleachlaw24.TruthInOrder', WHERE WHAT IT READS IS OF BULK AT MOST 1048576: true; the input reads as it did. -/
def truthInOrderUptoRow : OpenClaim := { program := "ytkaaolegkffckaagreatdoor", sum := "60e1d7900b907dcb42e3e3b776b65b034c06584bc98fac3aafb8f72a3a862b8f", func := "pleach/pleachlaw24.TruthInOrder", spec := "truthInOrder", inPlace := ["slices.overlaps[pleach/api.Span]", "slices.overlaps[pleach/api.Kid]", "slices.overlaps[pleach/api.Item]"], unfollowed := true, recurses := true, named := ["unicode/utf8.first", "unicode/utf8.acceptRanges"], apart := false, laid := [("unicode/utf8.acceptRanges", laid_unicode_utf8_acceptRanges), ("unicode/utf8.first", laid_unicode_utf8_first)], narrowed := true }
def TruthInOrderUptoSaid : Prop := truthInOrderUptoRow.holds Tryz.pinned (OpenSpec.upto truthInOrderSpec)

/-- 'pleachlaw24.TruthSaid', WHERE WHAT IT READS IS OF BULK AT MOST 1048576: true; the input reads as it did. -/
def truthSaidUptoRow : OpenClaim := { program := "ytkaaolegkffckaagreatdoor", sum := "60e1d7900b907dcb42e3e3b776b65b034c06584bc98fac3aafb8f72a3a862b8f", func := "pleach/pleachlaw24.TruthSaid", spec := "truthSaid", inPlace := ["slices.overlaps[pleach/api.Span]", "slices.overlaps[pleach/api.Kid]", "slices.overlaps[pleach/api.Item]"], unfollowed := true, recurses := true, named := ["unicode/utf8.first", "unicode/utf8.acceptRanges"], apart := false, laid := [("unicode/utf8.acceptRanges", laid_unicode_utf8_acceptRanges), ("unicode/utf8.first", laid_unicode_utf8_first)], narrowed := true }
def TruthSaidUptoSaid : Prop := truthSaidUptoRow.holds Tryz.pinned (OpenSpec.upto truthSaidSpec)

/-- 'pleachlaw24.TruthGrows', WHERE WHAT IT READS IS OF BULK AT MOST 1048576: true; the input reads as it did. -/
def truthGrowsUptoRow : OpenClaim := { program := "ytkaaolegkffckaagreatdoor", sum := "60e1d7900b907dcb42e3e3b776b65b034c06584bc98fac3aafb8f72a3a862b8f", func := "pleach/pleachlaw24.TruthGrows", spec := "truthGrows", inPlace := ["slices.overlaps[pleach/api.Span]", "slices.overlaps[pleach/api.Kid]", "slices.overlaps[pleach/api.Item]"], unfollowed := true, recurses := true, named := ["unicode/utf8.first", "unicode/utf8.acceptRanges"], apart := false, laid := [("unicode/utf8.acceptRanges", laid_unicode_utf8_acceptRanges), ("unicode/utf8.first", laid_unicode_utf8_first)], narrowed := true }
def TruthGrowsUptoSaid : Prop := truthGrowsUptoRow.holds Tryz.pinned (OpenSpec.upto truthGrowsSpec)

/-- 'pleachtop.TopNew', WHERE WHAT IT READS IS OF BULK AT MOST 1048576: true; the input reads as it did. -/
def topNewUptoRow : OpenClaim := { program := "ytkaaolegkffckaagreatdoor", sum := "60e1d7900b907dcb42e3e3b776b65b034c06584bc98fac3aafb8f72a3a862b8f", func := "pleach/pleachtop.TopNew", spec := "topNew", inPlace := ["slices.overlaps[pleach/api.Kid]", "slices.overlaps[pleach/api.Item]"], unfollowed := true, recurses := true, named := ["unicode/utf8.first", "unicode/utf8.acceptRanges"], apart := false, laid := [("unicode/utf8.acceptRanges", laid_unicode_utf8_acceptRanges), ("unicode/utf8.first", laid_unicode_utf8_first)], narrowed := true }
def TopNewUptoSaid : Prop := topNewUptoRow.holds Tryz.pinned (OpenSpec.upto topNewSpec)

/-- 'pleachtop.TopLate', WHERE WHAT IT READS IS OF BULK AT MOST 1048576: true; the input reads as it did. -/
def topLateUptoRow : OpenClaim := { program := "ytkaaolegkffckaagreatdoor", sum := "60e1d7900b907dcb42e3e3b776b65b034c06584bc98fac3aafb8f72a3a862b8f", func := "pleach/pleachtop.TopLate", spec := "topLate", inPlace := ["slices.overlaps[pleach/api.Kid]", "slices.overlaps[pleach/api.Item]"], unfollowed := true, recurses := true, named := ["unicode/utf8.first", "unicode/utf8.acceptRanges"], apart := false, laid := [("unicode/utf8.acceptRanges", laid_unicode_utf8_acceptRanges), ("unicode/utf8.first", laid_unicode_utf8_first)], narrowed := true }
def TopLateUptoSaid : Prop := topLateUptoRow.holds Tryz.pinned (OpenSpec.upto topLateSpec)

/-- 'pleachtop.TopFull', WHERE WHAT IT READS IS OF BULK AT MOST 1048576: true; the input reads as it did. -/
def topFullUptoRow : OpenClaim := { program := "ytkaaolegkffckaagreatdoor", sum := "60e1d7900b907dcb42e3e3b776b65b034c06584bc98fac3aafb8f72a3a862b8f", func := "pleach/pleachtop.TopFull", spec := "topFull", inPlace := ["slices.overlaps[pleach/api.Kid]", "slices.overlaps[pleach/api.Item]"], unfollowed := true, recurses := true, named := ["unicode/utf8.first", "unicode/utf8.acceptRanges"], apart := false, laid := [("unicode/utf8.acceptRanges", laid_unicode_utf8_acceptRanges), ("unicode/utf8.first", laid_unicode_utf8_first)], narrowed := true }
def TopFullUptoSaid : Prop := topFullUptoRow.holds Tryz.pinned (OpenSpec.upto topFullSpec)

/-- 'pleachtop.TopHeals', WHERE WHAT IT READS IS OF BULK AT MOST 1048576: true; the input reads as it did. -/
def topHealsUptoRow : OpenClaim := { program := "ytkaaolegkffckaagreatdoor", sum := "60e1d7900b907dcb42e3e3b776b65b034c06584bc98fac3aafb8f72a3a862b8f", func := "pleach/pleachtop.TopHeals", spec := "topHeals", inPlace := ["slices.overlaps[pleach/api.Kid]", "slices.overlaps[pleach/api.Item]"], unfollowed := true, recurses := true, named := ["unicode/utf8.first", "unicode/utf8.acceptRanges"], apart := false, laid := [("unicode/utf8.acceptRanges", laid_unicode_utf8_acceptRanges), ("unicode/utf8.first", laid_unicode_utf8_first)], narrowed := true }
def TopHealsUptoSaid : Prop := topHealsUptoRow.holds Tryz.pinned (OpenSpec.upto topHealsSpec)

/-- 'pleachtop.TopNear', WHERE WHAT IT READS IS OF BULK AT MOST 1048576: true; the input reads as it did. -/
def topNearUptoRow : OpenClaim := { program := "ytkaaolegkffckaagreatdoor", sum := "60e1d7900b907dcb42e3e3b776b65b034c06584bc98fac3aafb8f72a3a862b8f", func := "pleach/pleachtop.TopNear", spec := "topNear", inPlace := ["slices.overlaps[pleach/api.Kid]", "slices.overlaps[pleach/api.Item]"], unfollowed := true, recurses := true, named := ["unicode/utf8.first", "unicode/utf8.acceptRanges"], apart := false, laid := [("unicode/utf8.acceptRanges", laid_unicode_utf8_acceptRanges), ("unicode/utf8.first", laid_unicode_utf8_first)], narrowed := true }
def TopNearUptoSaid : Prop := topNearUptoRow.holds Tryz.pinned (OpenSpec.upto topNearSpec)

/-- 'pleachtop.TopDeep', WHERE WHAT IT READS IS OF BULK AT MOST 1048576: true; the input reads as it did. -/
def topDeepUptoRow : OpenClaim := { program := "ytkaaolegkffckaagreatdoor", sum := "60e1d7900b907dcb42e3e3b776b65b034c06584bc98fac3aafb8f72a3a862b8f", func := "pleach/pleachtop.TopDeep", spec := "topDeep", inPlace := ["slices.overlaps[pleach/api.Kid]", "slices.overlaps[pleach/api.Item]"], unfollowed := true, recurses := true, named := ["unicode/utf8.first", "unicode/utf8.acceptRanges"], apart := false, laid := [("unicode/utf8.acceptRanges", laid_unicode_utf8_acceptRanges), ("unicode/utf8.first", laid_unicode_utf8_first)], narrowed := true }
def TopDeepUptoSaid : Prop := topDeepUptoRow.holds Tryz.pinned (OpenSpec.upto topDeepSpec)

/-- 'pleachtop.TopWhole', WHERE WHAT IT READS IS OF BULK AT MOST 1048576: true; the input reads as it did. -/
def topWholeUptoRow : OpenClaim := { program := "ytkaaolegkffckaagreatdoor", sum := "60e1d7900b907dcb42e3e3b776b65b034c06584bc98fac3aafb8f72a3a862b8f", func := "pleach/pleachtop.TopWhole", spec := "topWhole", inPlace := ["slices.overlaps[pleach/api.Kid]", "slices.overlaps[pleach/api.Item]"], unfollowed := true, recurses := true, named := ["unicode/utf8.first", "unicode/utf8.acceptRanges"], apart := false, laid := [("unicode/utf8.acceptRanges", laid_unicode_utf8_acceptRanges), ("unicode/utf8.first", laid_unicode_utf8_first)], narrowed := true }
def TopWholeUptoSaid : Prop := topWholeUptoRow.holds Tryz.pinned (OpenSpec.upto topWholeSpec)

/-- 'pleachtop.TopSame', WHERE WHAT IT READS IS OF BULK AT MOST 1048576: true; the input reads as it did. -/
def topSameUptoRow : OpenClaim := { program := "ytkaaolegkffckaagreatdoor", sum := "60e1d7900b907dcb42e3e3b776b65b034c06584bc98fac3aafb8f72a3a862b8f", func := "pleach/pleachtop.TopSame", spec := "topSame", inPlace := ["slices.overlaps[pleach/api.Kid]", "slices.overlaps[pleach/api.Item]"], unfollowed := true, recurses := true, named := ["unicode/utf8.first", "unicode/utf8.acceptRanges"], apart := false, laid := [("unicode/utf8.acceptRanges", laid_unicode_utf8_acceptRanges), ("unicode/utf8.first", laid_unicode_utf8_first)], narrowed := true }
def TopSameUptoSaid : Prop := topSameUptoRow.holds Tryz.pinned (OpenSpec.upto topSameSpec)

end Rows
end Go.Proofs.YtkaaolegkffckaaGreatDoor
