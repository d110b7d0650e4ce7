/-
  No cell of these rows narrows 'for every input' (looked for: loops, veiled, ifaces, maps, wideKeys, modest, calm, conditions, laid).
  DERIVED. THE GIVEN ROWS OF THIS SEAT. 11 by the template 'for every input the law returns true; each argument reads behind the call as it read before'; 0 by the template 'total and deterministic' (their statements: YtpbafmdebflbpaaTotals.lean).
  GIVEN WITH THE SEED: the statements are not yours to turn. If you find one false, say at which input.
  Laid BY PROGRAM, IN A SANDBOX (cutbox-rows.mjs): the forced cells as the released guide's own fill.sh prints them over the translation cf7a04f50563925e… (all of the seat's roots in one cut). By AI agents, Wed Nov 11 2026. No macro, syntax, notation, axiom, sorry.
-/
import Derived.Test.YtpbafmdebflbpaaChecked
import GoSem.Claim
import GoSem.ClaimJoined
import GoSem.ClaimMapViews
import Derived.JoinedTies
import Derived.KernelRfl
namespace Go.Proofs.Ytpbafmdebflbpaa
/- THE CELL 'sum', in the pinned program and in every row, IS THE sha256 OF THE DUMP (.gsa) THAT YtpbafmdebflbpaaProg.lean LOADS. Nothing in Lean hashes anything: it is a label: what it is worth is what the hold of that sum in a sandbox is worth. -/
noncomputable def Try.pinned : Pinned := { name := "ytpbafmdebflbpaa", sum := "cf7a04f50563925ec775eac54fa8aa38a6016128d1e407d37eb6e9bb0d6926bb", checked := Try.checked }
namespace Rows
def none {H : Type} : Left H := { results := [], args := [] }

/-- 'ragpickerlaw.WordsHeads': WHATEVER THE INPUT: true; the input reads as it did. -/
def wordsHeadsSpec : ChangeSpec := { name := "wordsHeads", fn := fun _ => fun
  | [d1, d2] => { results := [.lit (.bool true)], args := [d1, d2] }
  | _ => none }
def wordsHeadsRow : OpenClaim := { program := "ytpbafmdebflbpaa", sum := "cf7a04f50563925ec775eac54fa8aa38a6016128d1e407d37eb6e9bb0d6926bb", func := "ragpicker/ragpickerlaw.WordsHeads", spec := "wordsHeads", apart := false }
def WordsHeadsSaid : Prop := wordsHeadsRow.holds Try.pinned (OpenSpec.ofChange wordsHeadsSpec)

/-- ITS FALSE NEIGHBOUR: 'it returns false'. Refute it at one input. -/
def wordsHeadsWrong : ChangeSpec := { name := "wordsHeads", fn := fun _ => fun
  | [d1, d2] => { results := [.lit (.bool false)], args := [d1, d2] }
  | _ => none }
def WordsHeadsWrongFalsely : Prop := wordsHeadsRow.holds Try.pinned (OpenSpec.ofChange wordsHeadsWrong)

/-- 'ragpickerlaw.WordsPacks': WHATEVER THE INPUT: true; the input reads as it did. -/
def wordsPacksSpec : ChangeSpec := { name := "wordsPacks", fn := fun _ => fun
  | [d1, d2] => { results := [.lit (.bool true)], args := [d1, d2] }
  | _ => none }
def wordsPacksRow : OpenClaim := { program := "ytpbafmdebflbpaa", sum := "cf7a04f50563925ec775eac54fa8aa38a6016128d1e407d37eb6e9bb0d6926bb", func := "ragpicker/ragpickerlaw.WordsPacks", spec := "wordsPacks", apart := false }
def WordsPacksSaid : Prop := wordsPacksRow.holds Try.pinned (OpenSpec.ofChange wordsPacksSpec)

/-- ITS FALSE NEIGHBOUR: 'it returns false'. Refute it at one input. -/
def wordsPacksWrong : ChangeSpec := { name := "wordsPacks", fn := fun _ => fun
  | [d1, d2] => { results := [.lit (.bool false)], args := [d1, d2] }
  | _ => none }
def WordsPacksWrongFalsely : Prop := wordsPacksRow.holds Try.pinned (OpenSpec.ofChange wordsPacksWrong)

/-- 'ragpickerlaw.HazardPlays': WHATEVER THE INPUT: true; the input reads as it did. -/
def hazardPlaysSpec : ChangeSpec := { name := "hazardPlays", fn := fun _ => fun
  | [d1, d2] => { results := [.lit (.bool true)], args := [d1, d2] }
  | _ => none }
def hazardPlaysRow : OpenClaim := { program := "ytpbafmdebflbpaa", sum := "cf7a04f50563925ec775eac54fa8aa38a6016128d1e407d37eb6e9bb0d6926bb", func := "ragpicker/ragpickerlaw.HazardPlays", spec := "hazardPlays", unfollowed := true, recurses := true, apart := false }
def HazardPlaysSaid : Prop := hazardPlaysRow.holds Try.pinned (OpenSpec.ofChange hazardPlaysSpec)

/-- ITS FALSE NEIGHBOUR: 'it returns false'. Refute it at one input. -/
def hazardPlaysWrong : ChangeSpec := { name := "hazardPlays", fn := fun _ => fun
  | [d1, d2] => { results := [.lit (.bool false)], args := [d1, d2] }
  | _ => none }
def HazardPlaysWrongFalsely : Prop := hazardPlaysRow.holds Try.pinned (OpenSpec.ofChange hazardPlaysWrong)

/-- 'ragpickerlaw.ArenaLays': WHATEVER THE INPUT: true; the input reads as it did. -/
def arenaLaysSpec : ChangeSpec := { name := "arenaLays", fn := fun _ => fun
  | [d] => { results := [.lit (.bool true)], args := [d] }
  | _ => none }
def arenaLaysRow : OpenClaim := { program := "ytpbafmdebflbpaa", sum := "cf7a04f50563925ec775eac54fa8aa38a6016128d1e407d37eb6e9bb0d6926bb", func := "ragpicker/ragpickerlaw.ArenaLays", spec := "arenaLays", unfollowed := true, recurses := true, apart := false }
def ArenaLaysSaid : Prop := arenaLaysRow.holds Try.pinned (OpenSpec.ofChange arenaLaysSpec)

/-- ITS FALSE NEIGHBOUR: 'it returns false'. Refute it at one input. -/
def arenaLaysWrong : ChangeSpec := { name := "arenaLays", fn := fun _ => fun
  | [d] => { results := [.lit (.bool false)], args := [d] }
  | _ => none }
def ArenaLaysWrongFalsely : Prop := arenaLaysRow.holds Try.pinned (OpenSpec.ofChange arenaLaysWrong)

/-- 'ragpickerlaw.MoveTells': WHATEVER THE INPUT: true; the input reads as it did. -/
def moveTellsSpec : ChangeSpec := { name := "moveTells", fn := fun _ => fun
  | [d] => { results := [.lit (.bool true)], args := [d] }
  | _ => none }
def moveTellsRow : OpenClaim := { program := "ytpbafmdebflbpaa", sum := "cf7a04f50563925ec775eac54fa8aa38a6016128d1e407d37eb6e9bb0d6926bb", func := "ragpicker/ragpickerlaw.MoveTells", spec := "moveTells", unfollowed := true, recurses := true, apart := false }
def MoveTellsSaid : Prop := moveTellsRow.holds Try.pinned (OpenSpec.ofChange moveTellsSpec)

/-- ITS FALSE NEIGHBOUR: 'it returns false'. Refute it at one input. -/
def moveTellsWrong : ChangeSpec := { name := "moveTells", fn := fun _ => fun
  | [d] => { results := [.lit (.bool false)], args := [d] }
  | _ => none }
def MoveTellsWrongFalsely : Prop := moveTellsRow.holds Try.pinned (OpenSpec.ofChange moveTellsWrong)

/-- 'ragpickerlaw.EpochPlays': WHATEVER THE INPUT: true; the input reads as it did. -/
def epochPlaysSpec : ChangeSpec := { name := "epochPlays", fn := fun _ => fun
  | [d1, d2] => { results := [.lit (.bool true)], args := [d1, d2] }
  | _ => none }
def epochPlaysRow : OpenClaim := { program := "ytpbafmdebflbpaa", sum := "cf7a04f50563925ec775eac54fa8aa38a6016128d1e407d37eb6e9bb0d6926bb", func := "ragpicker/ragpickerlaw.EpochPlays", spec := "epochPlays", unfollowed := true, recurses := true, apart := false }
def EpochPlaysSaid : Prop := epochPlaysRow.holds Try.pinned (OpenSpec.ofChange epochPlaysSpec)

/-- ITS FALSE NEIGHBOUR: 'it returns false'. Refute it at one input. -/
def epochPlaysWrong : ChangeSpec := { name := "epochPlays", fn := fun _ => fun
  | [d1, d2] => { results := [.lit (.bool false)], args := [d1, d2] }
  | _ => none }
def EpochPlaysWrongFalsely : Prop := epochPlaysRow.holds Try.pinned (OpenSpec.ofChange epochPlaysWrong)

/-- 'ragpickerlaw.ArenaTells': WHATEVER THE INPUT: true; the input reads as it did. -/
def arenaTellsSpec : ChangeSpec := { name := "arenaTells", fn := fun _ => fun
  | [d] => { results := [.lit (.bool true)], args := [d] }
  | _ => none }
def arenaTellsRow : OpenClaim := { program := "ytpbafmdebflbpaa", sum := "cf7a04f50563925ec775eac54fa8aa38a6016128d1e407d37eb6e9bb0d6926bb", func := "ragpicker/ragpickerlaw.ArenaTells", spec := "arenaTells", unfollowed := true, recurses := true, apart := false }
def ArenaTellsSaid : Prop := arenaTellsRow.holds Try.pinned (OpenSpec.ofChange arenaTellsSpec)

/-- ITS FALSE NEIGHBOUR: 'it returns false'. Refute it at one input. -/
def arenaTellsWrong : ChangeSpec := { name := "arenaTells", fn := fun _ => fun
  | [d] => { results := [.lit (.bool false)], args := [d] }
  | _ => none }
def ArenaTellsWrongFalsely : Prop := arenaTellsRow.holds Try.pinned (OpenSpec.ofChange arenaTellsWrong)

/-- 'ragpickerlaw.VisitTells': WHATEVER THE INPUT: true; the input reads as it did. -/
def visitTellsSpec : ChangeSpec := { name := "visitTells", fn := fun _ => fun
  | [d] => { results := [.lit (.bool true)], args := [d] }
  | _ => none }
def visitTellsRow : OpenClaim := { program := "ytpbafmdebflbpaa", sum := "cf7a04f50563925ec775eac54fa8aa38a6016128d1e407d37eb6e9bb0d6926bb", func := "ragpicker/ragpickerlaw.VisitTells", spec := "visitTells", unfollowed := true, recurses := true, apart := false }
def VisitTellsSaid : Prop := visitTellsRow.holds Try.pinned (OpenSpec.ofChange visitTellsSpec)

/-- ITS FALSE NEIGHBOUR: 'it returns false'. Refute it at one input. -/
def visitTellsWrong : ChangeSpec := { name := "visitTells", fn := fun _ => fun
  | [d] => { results := [.lit (.bool false)], args := [d] }
  | _ => none }
def VisitTellsWrongFalsely : Prop := visitTellsRow.holds Try.pinned (OpenSpec.ofChange visitTellsWrong)

/-- 'ragpickerlaw.MarkTells': WHATEVER THE INPUT: true; the input reads as it did. -/
def markTellsSpec : ChangeSpec := { name := "markTells", fn := fun _ => fun
  | [d1, d2] => { results := [.lit (.bool true)], args := [d1, d2] }
  | _ => none }
def markTellsRow : OpenClaim := { program := "ytpbafmdebflbpaa", sum := "cf7a04f50563925ec775eac54fa8aa38a6016128d1e407d37eb6e9bb0d6926bb", func := "ragpicker/ragpickerlaw.MarkTells", spec := "markTells", unfollowed := true, recurses := true, apart := false }
def MarkTellsSaid : Prop := markTellsRow.holds Try.pinned (OpenSpec.ofChange markTellsSpec)

/-- ITS FALSE NEIGHBOUR: 'it returns false'. Refute it at one input. -/
def markTellsWrong : ChangeSpec := { name := "markTells", fn := fun _ => fun
  | [d1, d2] => { results := [.lit (.bool false)], args := [d1, d2] }
  | _ => none }
def MarkTellsWrongFalsely : Prop := markTellsRow.holds Try.pinned (OpenSpec.ofChange markTellsWrong)

/-- 'ragpickerlaw.SlideTells': WHATEVER THE INPUT: true; the input reads as it did. -/
def slideTellsSpec : ChangeSpec := { name := "slideTells", fn := fun _ => fun
  | [d] => { results := [.lit (.bool true)], args := [d] }
  | _ => none }
def slideTellsRow : OpenClaim := { program := "ytpbafmdebflbpaa", sum := "cf7a04f50563925ec775eac54fa8aa38a6016128d1e407d37eb6e9bb0d6926bb", func := "ragpicker/ragpickerlaw.SlideTells", spec := "slideTells", unfollowed := true, recurses := true, apart := false }
def SlideTellsSaid : Prop := slideTellsRow.holds Try.pinned (OpenSpec.ofChange slideTellsSpec)

/-- ITS FALSE NEIGHBOUR: 'it returns false'. Refute it at one input. -/
def slideTellsWrong : ChangeSpec := { name := "slideTells", fn := fun _ => fun
  | [d] => { results := [.lit (.bool false)], args := [d] }
  | _ => none }
def SlideTellsWrongFalsely : Prop := slideTellsRow.holds Try.pinned (OpenSpec.ofChange slideTellsWrong)

/-- 'ragpickerlaw.FingersTells': WHATEVER THE INPUT: true; the input reads as it did. -/
def fingersTellsSpec : ChangeSpec := { name := "fingersTells", fn := fun _ => fun
  | [d1, d2] => { results := [.lit (.bool true)], args := [d1, d2] }
  | _ => none }
def fingersTellsRow : OpenClaim := { program := "ytpbafmdebflbpaa", sum := "cf7a04f50563925ec775eac54fa8aa38a6016128d1e407d37eb6e9bb0d6926bb", func := "ragpicker/ragpickerlaw.FingersTells", spec := "fingersTells", unfollowed := true, recurses := true, apart := false }
def FingersTellsSaid : Prop := fingersTellsRow.holds Try.pinned (OpenSpec.ofChange fingersTellsSpec)

/-- ITS FALSE NEIGHBOUR: 'it returns false'. Refute it at one input. -/
def fingersTellsWrong : ChangeSpec := { name := "fingersTells", fn := fun _ => fun
  | [d1, d2] => { results := [.lit (.bool false)], args := [d1, d2] }
  | _ => none }
def FingersTellsWrongFalsely : Prop := fingersTellsRow.holds Try.pinned (OpenSpec.ofChange fingersTellsWrong)

/- THE SECOND FORM. 'bulk': how many values and letters a reading holds, each counted each time it is reached (what is shared counts as often as it is met; a slice's spare places count too). A statement '..UptoSaid' is the law's where the arguments, and the package variables that the reading takes, are together of bulk at most 1048576: NARROWER than '..Said'. Prove '..Said' where nothing that the law and all that it calls make is longer than what came in: it says more and counts as full. Else prove '..UptoSaid'. A law counts once. -/
mutual
def uptoBulk {H : Type} : DataW H → Nat
  | .lit (.string bytes) => bytes.length + 1
  | .lit _ => 1
  | .nil => 1
  | .ptr d => uptoBulk d + 1
  | .slice elems spare => uptoBulkAll elems + uptoBulkAll spare + 1
  | .agg parts => uptoBulkAll parts + 1
  | .iface _ d => uptoBulk d + 1
  | .map entries => uptoBulkEntries entries + 1
  | .held _ => 1
def uptoBulkAll {H : Type} : List (DataW H) → Nat
  | [] => 0
  | d :: r => uptoBulk d + uptoBulkAll r
def uptoBulkEntries {H : Type} : List (Lit × DataW H) → Nat
  | [] => 0
  | x :: r => uptoBulkEntry x + uptoBulkEntries r
def uptoBulkEntry {H : Type} : Lit × DataW H → Nat
  | (.string bytes, d) => bytes.length + uptoBulk d + 1
  | (_, d) => uptoBulk d + 1
 end
def uptoSmall : (H : Type) → List (DataW H) → Bool := fun _ ds => decide (uptoBulkAll ds ≤ 1048576)
def OpenSpec.upto (s : _root_.Go.ChangeSpec) : _root_.Go.OpenSpec := { _root_.Go.OpenSpec.ofChange s with cond := some uptoSmall }

/-- 'ragpickerlaw.WordsHeads', WHERE WHAT IT READS IS OF BULK AT MOST 1048576: true; the input reads as it did. -/
def wordsHeadsUptoRow : OpenClaim := { program := "ytpbafmdebflbpaa", sum := "cf7a04f50563925ec775eac54fa8aa38a6016128d1e407d37eb6e9bb0d6926bb", func := "ragpicker/ragpickerlaw.WordsHeads", spec := "wordsHeads", apart := false, narrowed := true }
def WordsHeadsUptoSaid : Prop := wordsHeadsUptoRow.holds Try.pinned (OpenSpec.upto wordsHeadsSpec)

/-- 'ragpickerlaw.WordsPacks', WHERE WHAT IT READS IS OF BULK AT MOST 1048576: true; the input reads as it did. -/
def wordsPacksUptoRow : OpenClaim := { program := "ytpbafmdebflbpaa", sum := "cf7a04f50563925ec775eac54fa8aa38a6016128d1e407d37eb6e9bb0d6926bb", func := "ragpicker/ragpickerlaw.WordsPacks", spec := "wordsPacks", apart := false, narrowed := true }
def WordsPacksUptoSaid : Prop := wordsPacksUptoRow.holds Try.pinned (OpenSpec.upto wordsPacksSpec)

/-- 'ragpickerlaw.HazardPlays', WHERE WHAT IT READS IS OF BULK AT MOST 1048576: true; the input reads as it did. -/
def hazardPlaysUptoRow : OpenClaim := { program := "ytpbafmdebflbpaa", sum := "cf7a04f50563925ec775eac54fa8aa38a6016128d1e407d37eb6e9bb0d6926bb", func := "ragpicker/ragpickerlaw.HazardPlays", spec := "hazardPlays", unfollowed := true, recurses := true, apart := false, narrowed := true }
def HazardPlaysUptoSaid : Prop := hazardPlaysUptoRow.holds Try.pinned (OpenSpec.upto hazardPlaysSpec)

/-- 'ragpickerlaw.ArenaLays', WHERE WHAT IT READS IS OF BULK AT MOST 1048576: true; the input reads as it did. -/
def arenaLaysUptoRow : OpenClaim := { program := "ytpbafmdebflbpaa", sum := "cf7a04f50563925ec775eac54fa8aa38a6016128d1e407d37eb6e9bb0d6926bb", func := "ragpicker/ragpickerlaw.ArenaLays", spec := "arenaLays", unfollowed := true, recurses := true, apart := false, narrowed := true }
def ArenaLaysUptoSaid : Prop := arenaLaysUptoRow.holds Try.pinned (OpenSpec.upto arenaLaysSpec)

/-- 'ragpickerlaw.MoveTells', WHERE WHAT IT READS IS OF BULK AT MOST 1048576: true; the input reads as it did. -/
def moveTellsUptoRow : OpenClaim := { program := "ytpbafmdebflbpaa", sum := "cf7a04f50563925ec775eac54fa8aa38a6016128d1e407d37eb6e9bb0d6926bb", func := "ragpicker/ragpickerlaw.MoveTells", spec := "moveTells", unfollowed := true, recurses := true, apart := false, narrowed := true }
def MoveTellsUptoSaid : Prop := moveTellsUptoRow.holds Try.pinned (OpenSpec.upto moveTellsSpec)

/-- 'ragpickerlaw.EpochPlays', WHERE WHAT IT READS IS OF BULK AT MOST 1048576: true; the input reads as it did. -/
def epochPlaysUptoRow : OpenClaim := { program := "ytpbafmdebflbpaa", sum := "cf7a04f50563925ec775eac54fa8aa38a6016128d1e407d37eb6e9bb0d6926bb", func := "ragpicker/ragpickerlaw.EpochPlays", spec := "epochPlays", unfollowed := true, recurses := true, apart := false, narrowed := true }
def EpochPlaysUptoSaid : Prop := epochPlaysUptoRow.holds Try.pinned (OpenSpec.upto epochPlaysSpec)

/-- 'ragpickerlaw.ArenaTells', WHERE WHAT IT READS IS OF BULK AT MOST 1048576: true; the input reads as it did. -/
def arenaTellsUptoRow : OpenClaim := { program := "ytpbafmdebflbpaa", sum := "cf7a04f50563925ec775eac54fa8aa38a6016128d1e407d37eb6e9bb0d6926bb", func := "ragpicker/ragpickerlaw.ArenaTells", spec := "arenaTells", unfollowed := true, recurses := true, apart := false, narrowed := true }
def ArenaTellsUptoSaid : Prop := arenaTellsUptoRow.holds Try.pinned (OpenSpec.upto arenaTellsSpec)

/-- 'ragpickerlaw.VisitTells', WHERE WHAT IT READS IS OF BULK AT MOST 1048576: true; the input reads as it did. -/
def visitTellsUptoRow : OpenClaim := { program := "ytpbafmdebflbpaa", sum := "cf7a04f50563925ec775eac54fa8aa38a6016128d1e407d37eb6e9bb0d6926bb", func := "ragpicker/ragpickerlaw.VisitTells", spec := "visitTells", unfollowed := true, recurses := true, apart := false, narrowed := true }
def VisitTellsUptoSaid : Prop := visitTellsUptoRow.holds Try.pinned (OpenSpec.upto visitTellsSpec)

/-- 'ragpickerlaw.MarkTells', WHERE WHAT IT READS IS OF BULK AT MOST 1048576: true; the input reads as it did. -/
def markTellsUptoRow : OpenClaim := { program := "ytpbafmdebflbpaa", sum := "cf7a04f50563925ec775eac54fa8aa38a6016128d1e407d37eb6e9bb0d6926bb", func := "ragpicker/ragpickerlaw.MarkTells", spec := "markTells", unfollowed := true, recurses := true, apart := false, narrowed := true }
def MarkTellsUptoSaid : Prop := markTellsUptoRow.holds Try.pinned (OpenSpec.upto markTellsSpec)

/-- 'ragpickerlaw.SlideTells', WHERE WHAT IT READS IS OF BULK AT MOST 1048576: true; the input reads as it did. -/
def slideTellsUptoRow : OpenClaim := { program := "ytpbafmdebflbpaa", sum := "cf7a04f50563925ec775eac54fa8aa38a6016128d1e407d37eb6e9bb0d6926bb", func := "ragpicker/ragpickerlaw.SlideTells", spec := "slideTells", unfollowed := true, recurses := true, apart := false, narrowed := true }
def SlideTellsUptoSaid : Prop := slideTellsUptoRow.holds Try.pinned (OpenSpec.upto slideTellsSpec)

/-- 'ragpickerlaw.FingersTells', WHERE WHAT IT READS IS OF BULK AT MOST 1048576: true; the input reads as it did. -/
def fingersTellsUptoRow : OpenClaim := { program := "ytpbafmdebflbpaa", sum := "cf7a04f50563925ec775eac54fa8aa38a6016128d1e407d37eb6e9bb0d6926bb", func := "ragpicker/ragpickerlaw.FingersTells", spec := "fingersTells", unfollowed := true, recurses := true, apart := false, narrowed := true }
def FingersTellsUptoSaid : Prop := fingersTellsUptoRow.holds Try.pinned (OpenSpec.upto fingersTellsSpec)

end Rows
end Go.Proofs.Ytpbafmdebflbpaa
