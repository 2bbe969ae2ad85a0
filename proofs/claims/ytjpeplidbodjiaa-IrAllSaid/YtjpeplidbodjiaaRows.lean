/-
  No cell of these rows narrows 'for every input' (looked for: loops, veiled, ifaces, maps, wideKeys, modest, calm, conditions, laid).
  DERIVED. THE GIVEN ROWS OF THIS SEAT. 15 by the template 'for every input the law returns true; each argument reads behind the call as it read before'; 0 by the template 'total and deterministic' (their statements: YtjpeplidbodjiaaTotals.lean).
  GIVEN WITH THE SEED: the statements are not yours to turn. If you find one false, say at which input.
  Laid BY PROGRAM, IN A SANDBOX (cutbox-rows.mjs): the forced cells as the released guide's own fill.sh prints them over the translation 7fbd7c68b9a31894… (all of the seat's roots in one cut). By AI agents, Wed Nov 11 2026. No macro, syntax, notation, axiom, sorry.
-/
import Derived.Test.YtjpeplidbodjiaaChecked
import GoSem.Claim
import GoSem.ClaimJoined
import GoSem.ClaimMapViews
import Derived.JoinedTies
import Derived.KernelRfl
namespace Go.Proofs.Ytjpeplidbodjiaa
/- THE CELL 'sum', in the pinned program and in every row, IS THE sha256 OF THE DUMP (.gsa) THAT YtjpeplidbodjiaaProg.lean LOADS. Nothing in Lean hashes anything: it is a label: what it is worth is what the hold of that sum in a sandbox is worth. -/
noncomputable def Try.pinned : Pinned := { name := "ytjpeplidbodjiaa", sum := "7fbd7c68b9a318949bc01b29ad672478beae967983c2a1c01b4528cccc9f227e", checked := Try.checked }
namespace Rows
def none {H : Type} : Left H := { results := [], args := [] }

/-- 'calquelaw20.LiveAgain': WHATEVER THE INPUT: true; the input reads as it did. -/
def liveAgainSpec : ChangeSpec := { name := "liveAgain", fn := fun _ => fun
  | [d] => { results := [.lit (.bool true)], args := [d] }
  | _ => none }
def liveAgainRow : OpenClaim := { program := "ytjpeplidbodjiaa", sum := "7fbd7c68b9a318949bc01b29ad672478beae967983c2a1c01b4528cccc9f227e", func := "calque/calquelaw20.LiveAgain", spec := "liveAgain", unfollowed := true, recurses := true, apart := false }
def LiveAgainSaid : Prop := liveAgainRow.holds Try.pinned (OpenSpec.ofChange liveAgainSpec)

/-- ITS FALSE NEIGHBOUR: 'it returns false'. Refute it at one input. -/
def liveAgainWrong : ChangeSpec := { name := "liveAgain", fn := fun _ => fun
  | [d] => { results := [.lit (.bool false)], args := [d] }
  | _ => none }
def LiveAgainWrongFalsely : Prop := liveAgainRow.holds Try.pinned (OpenSpec.ofChange liveAgainWrong)

/-- 'calquelaw20.LiveAll': WHATEVER THE INPUT: true; the input reads as it did. -/
def liveAllSpec : ChangeSpec := { name := "liveAll", fn := fun _ => fun
  | [d] => { results := [.lit (.bool true)], args := [d] }
  | _ => none }
def liveAllRow : OpenClaim := { program := "ytjpeplidbodjiaa", sum := "7fbd7c68b9a318949bc01b29ad672478beae967983c2a1c01b4528cccc9f227e", func := "calque/calquelaw20.LiveAll", spec := "liveAll", unfollowed := true, recurses := true, apart := false }
def LiveAllSaid : Prop := liveAllRow.holds Try.pinned (OpenSpec.ofChange liveAllSpec)

/-- ITS FALSE NEIGHBOUR: 'it returns false'. Refute it at one input. -/
def liveAllWrong : ChangeSpec := { name := "liveAll", fn := fun _ => fun
  | [d] => { results := [.lit (.bool false)], args := [d] }
  | _ => none }
def LiveAllWrongFalsely : Prop := liveAllRow.holds Try.pinned (OpenSpec.ofChange liveAllWrong)

/-- 'calquelaw20.LiveNeeds': WHATEVER THE INPUT: true; the input reads as it did. -/
def liveNeedsSpec : ChangeSpec := { name := "liveNeeds", fn := fun _ => fun
  | [d1, d2] => { results := [.lit (.bool true)], args := [d1, d2] }
  | _ => none }
def liveNeedsRow : OpenClaim := { program := "ytjpeplidbodjiaa", sum := "7fbd7c68b9a318949bc01b29ad672478beae967983c2a1c01b4528cccc9f227e", func := "calque/calquelaw20.LiveNeeds", spec := "liveNeeds", unfollowed := true, recurses := true, apart := false }
def LiveNeedsSaid : Prop := liveNeedsRow.holds Try.pinned (OpenSpec.ofChange liveNeedsSpec)

/-- ITS FALSE NEIGHBOUR: 'it returns false'. Refute it at one input. -/
def liveNeedsWrong : ChangeSpec := { name := "liveNeeds", fn := fun _ => fun
  | [d1, d2] => { results := [.lit (.bool false)], args := [d1, d2] }
  | _ => none }
def LiveNeedsWrongFalsely : Prop := liveNeedsRow.holds Try.pinned (OpenSpec.ofChange liveNeedsWrong)

/-- 'calquelaw18.LiftAll': WHATEVER THE INPUT: true; the input reads as it did. -/
def liftAllSpec : ChangeSpec := { name := "liftAll", fn := fun _ => fun
  | [d1, d2] => { results := [.lit (.bool true)], args := [d1, d2] }
  | _ => none }
def liftAllRow : OpenClaim := { program := "ytjpeplidbodjiaa", sum := "7fbd7c68b9a318949bc01b29ad672478beae967983c2a1c01b4528cccc9f227e", func := "calque/calquelaw18.LiftAll", spec := "liftAll", unfollowed := true, recurses := true, apart := false }
def LiftAllSaid : Prop := liftAllRow.holds Try.pinned (OpenSpec.ofChange liftAllSpec)

/-- ITS FALSE NEIGHBOUR: 'it returns false'. Refute it at one input. -/
def liftAllWrong : ChangeSpec := { name := "liftAll", fn := fun _ => fun
  | [d1, d2] => { results := [.lit (.bool false)], args := [d1, d2] }
  | _ => none }
def LiftAllWrongFalsely : Prop := liftAllRow.holds Try.pinned (OpenSpec.ofChange liftAllWrong)

/-- 'calquelaw21.PropSame': WHATEVER THE INPUT: true; the input reads as it did. -/
def propSameSpec : ChangeSpec := { name := "propSame", fn := fun _ => fun
  | [d1, d2, d3] => { results := [.lit (.bool true)], args := [d1, d2, d3] }
  | _ => none }
def propSameRow : OpenClaim := { program := "ytjpeplidbodjiaa", sum := "7fbd7c68b9a318949bc01b29ad672478beae967983c2a1c01b4528cccc9f227e", func := "calque/calquelaw21.PropSame", spec := "propSame", inPlace := ["sync/atomic.LoadInt64", "sync/atomic.AddInt64"], unfollowed := true, recurses := true, apart := false }
def PropSameSaid : Prop := propSameRow.holds Try.pinned (OpenSpec.ofChange propSameSpec)

/-- ITS FALSE NEIGHBOUR: 'it returns false'. Refute it at one input. -/
def propSameWrong : ChangeSpec := { name := "propSame", fn := fun _ => fun
  | [d1, d2, d3] => { results := [.lit (.bool false)], args := [d1, d2, d3] }
  | _ => none }
def PropSameWrongFalsely : Prop := propSameRow.holds Try.pinned (OpenSpec.ofChange propSameWrong)

/-- 'calquelaw18.LiftEnds': WHATEVER THE INPUT: true; the input reads as it did. -/
def liftEndsSpec : ChangeSpec := { name := "liftEnds", fn := fun _ => fun
  | [d1, d2] => { results := [.lit (.bool true)], args := [d1, d2] }
  | _ => none }
def liftEndsRow : OpenClaim := { program := "ytjpeplidbodjiaa", sum := "7fbd7c68b9a318949bc01b29ad672478beae967983c2a1c01b4528cccc9f227e", func := "calque/calquelaw18.LiftEnds", spec := "liftEnds", unfollowed := true, recurses := true, apart := false }
def LiftEndsSaid : Prop := liftEndsRow.holds Try.pinned (OpenSpec.ofChange liftEndsSpec)

/-- ITS FALSE NEIGHBOUR: 'it returns false'. Refute it at one input. -/
def liftEndsWrong : ChangeSpec := { name := "liftEnds", fn := fun _ => fun
  | [d1, d2] => { results := [.lit (.bool false)], args := [d1, d2] }
  | _ => none }
def LiftEndsWrongFalsely : Prop := liftEndsRow.holds Try.pinned (OpenSpec.ofChange liftEndsWrong)

/-- 'calquelaw17.IrSpoilt': WHATEVER THE INPUT: true; the input reads as it did. -/
def irSpoiltSpec : ChangeSpec := { name := "irSpoilt", fn := fun _ => fun
  | [d1, d2] => { results := [.lit (.bool true)], args := [d1, d2] }
  | _ => none }
def irSpoiltRow : OpenClaim := { program := "ytjpeplidbodjiaa", sum := "7fbd7c68b9a318949bc01b29ad672478beae967983c2a1c01b4528cccc9f227e", func := "calque/calquelaw17.IrSpoilt", spec := "irSpoilt", unfollowed := true, recurses := true, apart := false }
def IrSpoiltSaid : Prop := irSpoiltRow.holds Try.pinned (OpenSpec.ofChange irSpoiltSpec)

/-- ITS FALSE NEIGHBOUR: 'it returns false'. Refute it at one input. -/
def irSpoiltWrong : ChangeSpec := { name := "irSpoilt", fn := fun _ => fun
  | [d1, d2] => { results := [.lit (.bool false)], args := [d1, d2] }
  | _ => none }
def IrSpoiltWrongFalsely : Prop := irSpoiltRow.holds Try.pinned (OpenSpec.ofChange irSpoiltWrong)

/-- 'calquelaw17.IrAll': WHATEVER THE INPUT: true; the input reads as it did. -/
def irAllSpec : ChangeSpec := { name := "irAll", fn := fun _ => fun
  | [d1, d2, d3, d4, d5] => { results := [.lit (.bool true)], args := [d1, d2, d3, d4, d5] }
  | _ => none }
def irAllRow : OpenClaim := { program := "ytjpeplidbodjiaa", sum := "7fbd7c68b9a318949bc01b29ad672478beae967983c2a1c01b4528cccc9f227e", func := "calque/calquelaw17.IrAll", spec := "irAll", unfollowed := true, recurses := true, apart := false }
def IrAllSaid : Prop := irAllRow.holds Try.pinned (OpenSpec.ofChange irAllSpec)

/-- ITS FALSE NEIGHBOUR: 'it returns false'. Refute it at one input. -/
def irAllWrong : ChangeSpec := { name := "irAll", fn := fun _ => fun
  | [d1, d2, d3, d4, d5] => { results := [.lit (.bool false)], args := [d1, d2, d3, d4, d5] }
  | _ => none }
def IrAllWrongFalsely : Prop := irAllRow.holds Try.pinned (OpenSpec.ofChange irAllWrong)

/-- 'calquelaw17.IrSorts': WHATEVER THE INPUT: true; the input reads as it did. -/
def irSortsSpec : ChangeSpec := { name := "irSorts", fn := fun _ => fun
  | [d1, d2, d3] => { results := [.lit (.bool true)], args := [d1, d2, d3] }
  | _ => none }
def irSortsRow : OpenClaim := { program := "ytjpeplidbodjiaa", sum := "7fbd7c68b9a318949bc01b29ad672478beae967983c2a1c01b4528cccc9f227e", func := "calque/calquelaw17.IrSorts", spec := "irSorts", unfollowed := true, recurses := true, apart := false }
def IrSortsSaid : Prop := irSortsRow.holds Try.pinned (OpenSpec.ofChange irSortsSpec)

/-- ITS FALSE NEIGHBOUR: 'it returns false'. Refute it at one input. -/
def irSortsWrong : ChangeSpec := { name := "irSorts", fn := fun _ => fun
  | [d1, d2, d3] => { results := [.lit (.bool false)], args := [d1, d2, d3] }
  | _ => none }
def IrSortsWrongFalsely : Prop := irSortsRow.holds Try.pinned (OpenSpec.ofChange irSortsWrong)

/-- 'calquelaw17.IrTwins': WHATEVER THE INPUT: true; the input reads as it did. -/
def irTwinsSpec : ChangeSpec := { name := "irTwins", fn := fun _ => fun
  | [d1, d2] => { results := [.lit (.bool true)], args := [d1, d2] }
  | _ => none }
def irTwinsRow : OpenClaim := { program := "ytjpeplidbodjiaa", sum := "7fbd7c68b9a318949bc01b29ad672478beae967983c2a1c01b4528cccc9f227e", func := "calque/calquelaw17.IrTwins", spec := "irTwins", unfollowed := true, recurses := true, apart := false }
def IrTwinsSaid : Prop := irTwinsRow.holds Try.pinned (OpenSpec.ofChange irTwinsSpec)

/-- ITS FALSE NEIGHBOUR: 'it returns false'. Refute it at one input. -/
def irTwinsWrong : ChangeSpec := { name := "irTwins", fn := fun _ => fun
  | [d1, d2] => { results := [.lit (.bool false)], args := [d1, d2] }
  | _ => none }
def IrTwinsWrongFalsely : Prop := irTwinsRow.holds Try.pinned (OpenSpec.ofChange irTwinsWrong)

/-- 'calquelaw18.LiftBlocks': WHATEVER THE INPUT: true; the input reads as it did. -/
def liftBlocksSpec : ChangeSpec := { name := "liftBlocks", fn := fun _ => fun
  | [d1, d2, d3] => { results := [.lit (.bool true)], args := [d1, d2, d3] }
  | _ => none }
def liftBlocksRow : OpenClaim := { program := "ytjpeplidbodjiaa", sum := "7fbd7c68b9a318949bc01b29ad672478beae967983c2a1c01b4528cccc9f227e", func := "calque/calquelaw18.LiftBlocks", spec := "liftBlocks", unfollowed := true, recurses := true, apart := false }
def LiftBlocksSaid : Prop := liftBlocksRow.holds Try.pinned (OpenSpec.ofChange liftBlocksSpec)

/-- ITS FALSE NEIGHBOUR: 'it returns false'. Refute it at one input. -/
def liftBlocksWrong : ChangeSpec := { name := "liftBlocks", fn := fun _ => fun
  | [d1, d2, d3] => { results := [.lit (.bool false)], args := [d1, d2, d3] }
  | _ => none }
def LiftBlocksWrongFalsely : Prop := liftBlocksRow.holds Try.pinned (OpenSpec.ofChange liftBlocksWrong)

/-- 'calquelaw18.LiftWords': WHATEVER THE INPUT: true; the input reads as it did. -/
def liftWordsSpec : ChangeSpec := { name := "liftWords", fn := fun _ => fun
  | [d1, d2] => { results := [.lit (.bool true)], args := [d1, d2] }
  | _ => none }
def liftWordsRow : OpenClaim := { program := "ytjpeplidbodjiaa", sum := "7fbd7c68b9a318949bc01b29ad672478beae967983c2a1c01b4528cccc9f227e", func := "calque/calquelaw18.LiftWords", spec := "liftWords", unfollowed := true, recurses := true, apart := false }
def LiftWordsSaid : Prop := liftWordsRow.holds Try.pinned (OpenSpec.ofChange liftWordsSpec)

/-- ITS FALSE NEIGHBOUR: 'it returns false'. Refute it at one input. -/
def liftWordsWrong : ChangeSpec := { name := "liftWords", fn := fun _ => fun
  | [d1, d2] => { results := [.lit (.bool false)], args := [d1, d2] }
  | _ => none }
def LiftWordsWrongFalsely : Prop := liftWordsRow.holds Try.pinned (OpenSpec.ofChange liftWordsWrong)

/-- 'calquelaw21.PropAll': WHATEVER THE INPUT: true; the input reads as it did. -/
def propAllSpec : ChangeSpec := { name := "propAll", fn := fun _ => fun
  | [d] => { results := [.lit (.bool true)], args := [d] }
  | _ => none }
def propAllRow : OpenClaim := { program := "ytjpeplidbodjiaa", sum := "7fbd7c68b9a318949bc01b29ad672478beae967983c2a1c01b4528cccc9f227e", func := "calque/calquelaw21.PropAll", spec := "propAll", unfollowed := true, recurses := true, apart := false }
def PropAllSaid : Prop := propAllRow.holds Try.pinned (OpenSpec.ofChange propAllSpec)

/-- ITS FALSE NEIGHBOUR: 'it returns false'. Refute it at one input. -/
def propAllWrong : ChangeSpec := { name := "propAll", fn := fun _ => fun
  | [d] => { results := [.lit (.bool false)], args := [d] }
  | _ => none }
def PropAllWrongFalsely : Prop := propAllRow.holds Try.pinned (OpenSpec.ofChange propAllWrong)

/-- 'calquelaw21.PropKnown': WHATEVER THE INPUT: true; the input reads as it did. -/
def propKnownSpec : ChangeSpec := { name := "propKnown", fn := fun _ => fun
  | [d1, d2, d3] => { results := [.lit (.bool true)], args := [d1, d2, d3] }
  | _ => none }
def propKnownRow : OpenClaim := { program := "ytjpeplidbodjiaa", sum := "7fbd7c68b9a318949bc01b29ad672478beae967983c2a1c01b4528cccc9f227e", func := "calque/calquelaw21.PropKnown", spec := "propKnown", unfollowed := true, recurses := true, apart := false }
def PropKnownSaid : Prop := propKnownRow.holds Try.pinned (OpenSpec.ofChange propKnownSpec)

/-- ITS FALSE NEIGHBOUR: 'it returns false'. Refute it at one input. -/
def propKnownWrong : ChangeSpec := { name := "propKnown", fn := fun _ => fun
  | [d1, d2, d3] => { results := [.lit (.bool false)], args := [d1, d2, d3] }
  | _ => none }
def PropKnownWrongFalsely : Prop := propKnownRow.holds Try.pinned (OpenSpec.ofChange propKnownWrong)

/-- 'calquelaw20.LiveSame': WHATEVER THE INPUT: true; the input reads as it did. -/
def liveSameSpec : ChangeSpec := { name := "liveSame", fn := fun _ => fun
  | [d1, d2, d3] => { results := [.lit (.bool true)], args := [d1, d2, d3] }
  | _ => none }
def liveSameRow : OpenClaim := { program := "ytjpeplidbodjiaa", sum := "7fbd7c68b9a318949bc01b29ad672478beae967983c2a1c01b4528cccc9f227e", func := "calque/calquelaw20.LiveSame", spec := "liveSame", inPlace := ["sync/atomic.LoadInt64", "sync/atomic.AddInt64"], unfollowed := true, recurses := true, apart := false }
def LiveSameSaid : Prop := liveSameRow.holds Try.pinned (OpenSpec.ofChange liveSameSpec)

/-- ITS FALSE NEIGHBOUR: 'it returns false'. Refute it at one input. -/
def liveSameWrong : ChangeSpec := { name := "liveSame", fn := fun _ => fun
  | [d1, d2, d3] => { results := [.lit (.bool false)], args := [d1, d2, d3] }
  | _ => none }
def LiveSameWrongFalsely : Prop := liveSameRow.holds Try.pinned (OpenSpec.ofChange liveSameWrong)

/- THE SECOND FORM. 'bulk': how many values and letters a reading holds, each counted each time it is reached (what is shared counts as often as it is met; a slice's spare places count too). A statement '..UptoSaid' is the law's where the arguments, and the package variables that the reading takes, are together of bulk at most 1048576: NARROWER than '..Said'. Prove '..Said' where nothing that the law and all that it calls make is longer than what came in: it says more and counts as full. Else prove '..UptoSaid'. A law counts once. -/
mutual
def uptoBulk {H : Type} : DataW H → Nat
  | .lit (.string bytes) => bytes.length + 1
  | .lit _ => 1
  | .nil => 1
  | .ptr d => uptoBulk d + 1
  | .slice elems spare => uptoBulkAll elems + uptoBulkAll spare + 1
  | .agg parts => uptoBulkAll parts + 1
  | .iface _ d => uptoBulk d + 1
  | .map entries => uptoBulkEntries entries + 1
  | .held _ => 1
def uptoBulkAll {H : Type} : List (DataW H) → Nat
  | [] => 0
  | d :: r => uptoBulk d + uptoBulkAll r
def uptoBulkEntries {H : Type} : List (Lit × DataW H) → Nat
  | [] => 0
  | x :: r => uptoBulkEntry x + uptoBulkEntries r
def uptoBulkEntry {H : Type} : Lit × DataW H → Nat
  | (.string bytes, d) => bytes.length + uptoBulk d + 1
  | (_, d) => uptoBulk d + 1
 end
def uptoSmall : (H : Type) → List (DataW H) → Bool := fun _ ds => decide (uptoBulkAll ds ≤ 1048576)
def OpenSpec.upto (s : _root_.Go.ChangeSpec) : _root_.Go.OpenSpec := { _root_.Go.OpenSpec.ofChange s with cond := some uptoSmall }

/-- 'calquelaw20.LiveAgain', WHERE WHAT IT READS IS OF BULK AT MOST 1048576: true; the input reads as it did. -/
def liveAgainUptoRow : OpenClaim := { program := "ytjpeplidbodjiaa", sum := "7fbd7c68b9a318949bc01b29ad672478beae967983c2a1c01b4528cccc9f227e", func := "calque/calquelaw20.LiveAgain", spec := "liveAgain", unfollowed := true, recurses := true, apart := false, narrowed := true }
def LiveAgainUptoSaid : Prop := liveAgainUptoRow.holds Try.pinned (OpenSpec.upto liveAgainSpec)

/-- 'calquelaw20.LiveAll', WHERE WHAT IT READS IS OF BULK AT MOST 1048576: true; the input reads as it did. -/
def liveAllUptoRow : OpenClaim := { program := "ytjpeplidbodjiaa", sum := "7fbd7c68b9a318949bc01b29ad672478beae967983c2a1c01b4528cccc9f227e", func := "calque/calquelaw20.LiveAll", spec := "liveAll", unfollowed := true, recurses := true, apart := false, narrowed := true }
def LiveAllUptoSaid : Prop := liveAllUptoRow.holds Try.pinned (OpenSpec.upto liveAllSpec)

/-- 'calquelaw20.LiveNeeds', WHERE WHAT IT READS IS OF BULK AT MOST 1048576: true; the input reads as it did. -/
def liveNeedsUptoRow : OpenClaim := { program := "ytjpeplidbodjiaa", sum := "7fbd7c68b9a318949bc01b29ad672478beae967983c2a1c01b4528cccc9f227e", func := "calque/calquelaw20.LiveNeeds", spec := "liveNeeds", unfollowed := true, recurses := true, apart := false, narrowed := true }
def LiveNeedsUptoSaid : Prop := liveNeedsUptoRow.holds Try.pinned (OpenSpec.upto liveNeedsSpec)

/-- 'calquelaw18.LiftAll', WHERE WHAT IT READS IS OF BULK AT MOST 1048576: true; the input reads as it did. -/
def liftAllUptoRow : OpenClaim := { program := "ytjpeplidbodjiaa", sum := "7fbd7c68b9a318949bc01b29ad672478beae967983c2a1c01b4528cccc9f227e", func := "calque/calquelaw18.LiftAll", spec := "liftAll", unfollowed := true, recurses := true, apart := false, narrowed := true }
def LiftAllUptoSaid : Prop := liftAllUptoRow.holds Try.pinned (OpenSpec.upto liftAllSpec)

/-- 'calquelaw21.PropSame', WHERE WHAT IT READS IS OF BULK AT MOST 1048576: true; the input reads as it did. -/
def propSameUptoRow : OpenClaim := { program := "ytjpeplidbodjiaa", sum := "7fbd7c68b9a318949bc01b29ad672478beae967983c2a1c01b4528cccc9f227e", func := "calque/calquelaw21.PropSame", spec := "propSame", inPlace := ["sync/atomic.LoadInt64", "sync/atomic.AddInt64"], unfollowed := true, recurses := true, apart := false, narrowed := true }
def PropSameUptoSaid : Prop := propSameUptoRow.holds Try.pinned (OpenSpec.upto propSameSpec)

/-- 'calquelaw18.LiftEnds', WHERE WHAT IT READS IS OF BULK AT MOST 1048576: true; the input reads as it did. -/
def liftEndsUptoRow : OpenClaim := { program := "ytjpeplidbodjiaa", sum := "7fbd7c68b9a318949bc01b29ad672478beae967983c2a1c01b4528cccc9f227e", func := "calque/calquelaw18.LiftEnds", spec := "liftEnds", unfollowed := true, recurses := true, apart := false, narrowed := true }
def LiftEndsUptoSaid : Prop := liftEndsUptoRow.holds Try.pinned (OpenSpec.upto liftEndsSpec)

/-- 'calquelaw17.IrSpoilt', WHERE WHAT IT READS IS OF BULK AT MOST 1048576: true; the input reads as it did. -/
def irSpoiltUptoRow : OpenClaim := { program := "ytjpeplidbodjiaa", sum := "7fbd7c68b9a318949bc01b29ad672478beae967983c2a1c01b4528cccc9f227e", func := "calque/calquelaw17.IrSpoilt", spec := "irSpoilt", unfollowed := true, recurses := true, apart := false, narrowed := true }
def IrSpoiltUptoSaid : Prop := irSpoiltUptoRow.holds Try.pinned (OpenSpec.upto irSpoiltSpec)

/-- 'calquelaw17.IrAll', WHERE WHAT IT READS IS OF BULK AT MOST 1048576: true; the input reads as it did. -/
def irAllUptoRow : OpenClaim := { program := "ytjpeplidbodjiaa", sum := "7fbd7c68b9a318949bc01b29ad672478beae967983c2a1c01b4528cccc9f227e", func := "calque/calquelaw17.IrAll", spec := "irAll", unfollowed := true, recurses := true, apart := false, narrowed := true }
def IrAllUptoSaid : Prop := irAllUptoRow.holds Try.pinned (OpenSpec.upto irAllSpec)

/-- 'calquelaw17.IrSorts', WHERE WHAT IT READS IS OF BULK AT MOST 1048576: true; the input reads as it did. -/
def irSortsUptoRow : OpenClaim := { program := "ytjpeplidbodjiaa", sum := "7fbd7c68b9a318949bc01b29ad672478beae967983c2a1c01b4528cccc9f227e", func := "calque/calquelaw17.IrSorts", spec := "irSorts", unfollowed := true, recurses := true, apart := false, narrowed := true }
def IrSortsUptoSaid : Prop := irSortsUptoRow.holds Try.pinned (OpenSpec.upto irSortsSpec)

/-- 'calquelaw17.IrTwins', WHERE WHAT IT READS IS OF BULK AT MOST 1048576: true; the input reads as it did. -/
def irTwinsUptoRow : OpenClaim := { program := "ytjpeplidbodjiaa", sum := "7fbd7c68b9a318949bc01b29ad672478beae967983c2a1c01b4528cccc9f227e", func := "calque/calquelaw17.IrTwins", spec := "irTwins", unfollowed := true, recurses := true, apart := false, narrowed := true }
def IrTwinsUptoSaid : Prop := irTwinsUptoRow.holds Try.pinned (OpenSpec.upto irTwinsSpec)

/-- 'calquelaw18.LiftBlocks', WHERE WHAT IT READS IS OF BULK AT MOST 1048576: true; the input reads as it did. -/
def liftBlocksUptoRow : OpenClaim := { program := "ytjpeplidbodjiaa", sum := "7fbd7c68b9a318949bc01b29ad672478beae967983c2a1c01b4528cccc9f227e", func := "calque/calquelaw18.LiftBlocks", spec := "liftBlocks", unfollowed := true, recurses := true, apart := false, narrowed := true }
def LiftBlocksUptoSaid : Prop := liftBlocksUptoRow.holds Try.pinned (OpenSpec.upto liftBlocksSpec)

/-- 'calquelaw18.LiftWords', WHERE WHAT IT READS IS OF BULK AT MOST 1048576: true; the input reads as it did. -/
def liftWordsUptoRow : OpenClaim := { program := "ytjpeplidbodjiaa", sum := "7fbd7c68b9a318949bc01b29ad672478beae967983c2a1c01b4528cccc9f227e", func := "calque/calquelaw18.LiftWords", spec := "liftWords", unfollowed := true, recurses := true, apart := false, narrowed := true }
def LiftWordsUptoSaid : Prop := liftWordsUptoRow.holds Try.pinned (OpenSpec.upto liftWordsSpec)

/-- 'calquelaw21.PropAll', WHERE WHAT IT READS IS OF BULK AT MOST 1048576: true; the input reads as it did. -/
def propAllUptoRow : OpenClaim := { program := "ytjpeplidbodjiaa", sum := "7fbd7c68b9a318949bc01b29ad672478beae967983c2a1c01b4528cccc9f227e", func := "calque/calquelaw21.PropAll", spec := "propAll", unfollowed := true, recurses := true, apart := false, narrowed := true }
def PropAllUptoSaid : Prop := propAllUptoRow.holds Try.pinned (OpenSpec.upto propAllSpec)

/-- 'calquelaw21.PropKnown', WHERE WHAT IT READS IS OF BULK AT MOST 1048576: true; the input reads as it did. -/
def propKnownUptoRow : OpenClaim := { program := "ytjpeplidbodjiaa", sum := "7fbd7c68b9a318949bc01b29ad672478beae967983c2a1c01b4528cccc9f227e", func := "calque/calquelaw21.PropKnown", spec := "propKnown", unfollowed := true, recurses := true, apart := false, narrowed := true }
def PropKnownUptoSaid : Prop := propKnownUptoRow.holds Try.pinned (OpenSpec.upto propKnownSpec)

/-- 'calquelaw20.LiveSame', WHERE WHAT IT READS IS OF BULK AT MOST 1048576: true; the input reads as it did. -/
def liveSameUptoRow : OpenClaim := { program := "ytjpeplidbodjiaa", sum := "7fbd7c68b9a318949bc01b29ad672478beae967983c2a1c01b4528cccc9f227e", func := "calque/calquelaw20.LiveSame", spec := "liveSame", inPlace := ["sync/atomic.LoadInt64", "sync/atomic.AddInt64"], unfollowed := true, recurses := true, apart := false, narrowed := true }
def LiveSameUptoSaid : Prop := liveSameUptoRow.holds Try.pinned (OpenSpec.upto liveSameSpec)

end Rows
end Go.Proofs.Ytjpeplidbodjiaa
