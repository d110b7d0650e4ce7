/-
  No cell of these rows narrows 'for every input' (looked for: loops, veiled, ifaces, maps, wideKeys, modest, calm, conditions, laid).
  DERIVED. THE GIVEN ROWS OF THIS SEAT. 11 by the template 'for every input the law returns true; each argument reads behind the call as it read before'; 0 by the template 'total and deterministic' (their statements: YtjphckfbbiehdaaTotals.lean).
  GIVEN WITH THE SEED: the statements are not yours to turn. If you find one false, say at which input.
  Laid BY PROGRAM, IN A SANDBOX (cutbox-rows.mjs): the forced cells as the released guide's own fill.sh prints them over the translation e0c71367864baaba… (all of the seat's roots in one cut). By AI agents, Wed Nov 11 2026. No macro, syntax, notation, axiom, sorry.
-/
import Derived.Test.YtjphckfbbiehdaaChecked
import GoSem.Claim
import GoSem.ClaimJoined
import GoSem.ClaimMapViews
import Derived.JoinedTies
import Derived.KernelRfl
namespace Go.Proofs.Ytjphckfbbiehdaa
/- THE CELL 'sum', in the pinned program and in every row, IS THE sha256 OF THE DUMP (.gsa) THAT YtjphckfbbiehdaaProg.lean LOADS. Nothing in Lean hashes anything: it is a label: what it is worth is what the hold of that sum in a sandbox is worth. -/
noncomputable def Try.pinned : Pinned := { name := "ytjphckfbbiehdaa", sum := "e0c71367864baabad34741378409cd079f1fb36891a64753e517590ba31c48b9", checked := Try.checked }
namespace Rows
def none {H : Type} : Left H := { results := [], args := [] }

/-- 'ragpickertop.TopIdeal': WHATEVER THE INPUT: true; the input reads as it did. -/
def topIdealSpec : ChangeSpec := { name := "topIdeal", fn := fun _ => fun
  | [d1, d2, d3] => { results := [.lit (.bool true)], args := [d1, d2, d3] }
  | _ => none }
def topIdealRow : OpenClaim := { program := "ytjphckfbbiehdaa", sum := "e0c71367864baabad34741378409cd079f1fb36891a64753e517590ba31c48b9", func := "ragpicker/ragpickertop.TopIdeal", spec := "topIdeal", unfollowed := true, recurses := true, plainKeys := false, apart := false }
def TopIdealSaid : Prop := topIdealRow.holds Try.pinned (OpenSpec.ofChange topIdealSpec)

/-- ITS FALSE NEIGHBOUR: 'it returns false'. Refute it at one input. -/
def topIdealWrong : ChangeSpec := { name := "topIdeal", fn := fun _ => fun
  | [d1, d2, d3] => { results := [.lit (.bool false)], args := [d1, d2, d3] }
  | _ => none }
def TopIdealWrongFalsely : Prop := topIdealRow.holds Try.pinned (OpenSpec.ofChange topIdealWrong)

/-- 'ragpickertop.TopRoom': WHATEVER THE INPUT: true; the input reads as it did. -/
def topRoomSpec : ChangeSpec := { name := "topRoom", fn := fun _ => fun
  | [d1, d2, d3, d4] => { results := [.lit (.bool true)], args := [d1, d2, d3, d4] }
  | _ => none }
def topRoomRow : OpenClaim := { program := "ytjphckfbbiehdaa", sum := "e0c71367864baabad34741378409cd079f1fb36891a64753e517590ba31c48b9", func := "ragpicker/ragpickertop.TopRoom", spec := "topRoom", unfollowed := true, recurses := true, plainKeys := false, apart := false }
def TopRoomSaid : Prop := topRoomRow.holds Try.pinned (OpenSpec.ofChange topRoomSpec)

/-- ITS FALSE NEIGHBOUR: 'it returns false'. Refute it at one input. -/
def topRoomWrong : ChangeSpec := { name := "topRoom", fn := fun _ => fun
  | [d1, d2, d3, d4] => { results := [.lit (.bool false)], args := [d1, d2, d3, d4] }
  | _ => none }
def TopRoomWrongFalsely : Prop := topRoomRow.holds Try.pinned (OpenSpec.ofChange topRoomWrong)

/-- 'ragpickerlaw.FreePlays': WHATEVER THE INPUT: true; the input reads as it did. -/
def freePlaysSpec : ChangeSpec := { name := "freePlays", fn := fun _ => fun
  | [d1, d2, d3] => { results := [.lit (.bool true)], args := [d1, d2, d3] }
  | _ => none }
def freePlaysRow : OpenClaim := { program := "ytjphckfbbiehdaa", sum := "e0c71367864baabad34741378409cd079f1fb36891a64753e517590ba31c48b9", func := "ragpicker/ragpickerlaw.FreePlays", spec := "freePlays", inPlace := ["slices.overlaps[ragpicker/api.Block]"], unfollowed := true, recurses := true, plainKeys := false, apart := false }
def FreePlaysSaid : Prop := freePlaysRow.holds Try.pinned (OpenSpec.ofChange freePlaysSpec)

/-- ITS FALSE NEIGHBOUR: 'it returns false'. Refute it at one input. -/
def freePlaysWrong : ChangeSpec := { name := "freePlays", fn := fun _ => fun
  | [d1, d2, d3] => { results := [.lit (.bool false)], args := [d1, d2, d3] }
  | _ => none }
def FreePlaysWrongFalsely : Prop := freePlaysRow.holds Try.pinned (OpenSpec.ofChange freePlaysWrong)

/-- 'ragpickerlaw.BuddyPlays': WHATEVER THE INPUT: true; the input reads as it did. -/
def buddyPlaysSpec : ChangeSpec := { name := "buddyPlays", fn := fun _ => fun
  | [d1, d2] => { results := [.lit (.bool true)], args := [d1, d2] }
  | _ => none }
def buddyPlaysRow : OpenClaim := { program := "ytjphckfbbiehdaa", sum := "e0c71367864baabad34741378409cd079f1fb36891a64753e517590ba31c48b9", func := "ragpicker/ragpickerlaw.BuddyPlays", spec := "buddyPlays", unfollowed := true, recurses := true, plainKeys := false, apart := false }
def BuddyPlaysSaid : Prop := buddyPlaysRow.holds Try.pinned (OpenSpec.ofChange buddyPlaysSpec)

/-- ITS FALSE NEIGHBOUR: 'it returns false'. Refute it at one input. -/
def buddyPlaysWrong : ChangeSpec := { name := "buddyPlays", fn := fun _ => fun
  | [d1, d2] => { results := [.lit (.bool false)], args := [d1, d2] }
  | _ => none }
def BuddyPlaysWrongFalsely : Prop := buddyPlaysRow.holds Try.pinned (OpenSpec.ofChange buddyPlaysWrong)

/-- 'ragpickerlaw.CompsTells': WHATEVER THE INPUT: true; the input reads as it did. -/
def compsTellsSpec : ChangeSpec := { name := "compsTells", fn := fun _ => fun
  | [d] => { results := [.lit (.bool true)], args := [d] }
  | _ => none }
def compsTellsRow : OpenClaim := { program := "ytjphckfbbiehdaa", sum := "e0c71367864baabad34741378409cd079f1fb36891a64753e517590ba31c48b9", func := "ragpicker/ragpickerlaw.CompsTells", spec := "compsTells", unfollowed := true, recurses := true, plainKeys := false, apart := false }
def CompsTellsSaid : Prop := compsTellsRow.holds Try.pinned (OpenSpec.ofChange compsTellsSpec)

/-- ITS FALSE NEIGHBOUR: 'it returns false'. Refute it at one input. -/
def compsTellsWrong : ChangeSpec := { name := "compsTells", fn := fun _ => fun
  | [d] => { results := [.lit (.bool false)], args := [d] }
  | _ => none }
def CompsTellsWrongFalsely : Prop := compsTellsRow.holds Try.pinned (OpenSpec.ofChange compsTellsWrong)

/-- 'ragpickerlaw.RunPlays': WHATEVER THE INPUT: true; the input reads as it did. -/
def runPlaysSpec : ChangeSpec := { name := "runPlays", fn := fun _ => fun
  | [d1, d2, d3] => { results := [.lit (.bool true)], args := [d1, d2, d3] }
  | _ => none }
def runPlaysRow : OpenClaim := { program := "ytjphckfbbiehdaa", sum := "e0c71367864baabad34741378409cd079f1fb36891a64753e517590ba31c48b9", func := "ragpicker/ragpickerlaw.RunPlays", spec := "runPlays", unfollowed := true, recurses := true, plainKeys := false, apart := false }
def RunPlaysSaid : Prop := runPlaysRow.holds Try.pinned (OpenSpec.ofChange runPlaysSpec)

/-- ITS FALSE NEIGHBOUR: 'it returns false'. Refute it at one input. -/
def runPlaysWrong : ChangeSpec := { name := "runPlays", fn := fun _ => fun
  | [d1, d2, d3] => { results := [.lit (.bool false)], args := [d1, d2, d3] }
  | _ => none }
def RunPlaysWrongFalsely : Prop := runPlaysRow.holds Try.pinned (OpenSpec.ofChange runPlaysWrong)

/-- 'ragpickerlaw.CountPlays': WHATEVER THE INPUT: true; the input reads as it did. -/
def countPlaysSpec : ChangeSpec := { name := "countPlays", fn := fun _ => fun
  | [d1, d2, d3] => { results := [.lit (.bool true)], args := [d1, d2, d3] }
  | _ => none }
def countPlaysRow : OpenClaim := { program := "ytjphckfbbiehdaa", sum := "e0c71367864baabad34741378409cd079f1fb36891a64753e517590ba31c48b9", func := "ragpicker/ragpickerlaw.CountPlays", spec := "countPlays", unfollowed := true, recurses := true, plainKeys := false, apart := false }
def CountPlaysSaid : Prop := countPlaysRow.holds Try.pinned (OpenSpec.ofChange countPlaysSpec)

/-- ITS FALSE NEIGHBOUR: 'it returns false'. Refute it at one input. -/
def countPlaysWrong : ChangeSpec := { name := "countPlays", fn := fun _ => fun
  | [d1, d2, d3] => { results := [.lit (.bool false)], args := [d1, d2, d3] }
  | _ => none }
def CountPlaysWrongFalsely : Prop := countPlaysRow.holds Try.pinned (OpenSpec.ofChange countPlaysWrong)

/-- 'ragpickerlaw.IdealPlays': WHATEVER THE INPUT: true; the input reads as it did. -/
def idealPlaysSpec : ChangeSpec := { name := "idealPlays", fn := fun _ => fun
  | [d1, d2] => { results := [.lit (.bool true)], args := [d1, d2] }
  | _ => none }
def idealPlaysRow : OpenClaim := { program := "ytjphckfbbiehdaa", sum := "e0c71367864baabad34741378409cd079f1fb36891a64753e517590ba31c48b9", func := "ragpicker/ragpickerlaw.IdealPlays", spec := "idealPlays", unfollowed := true, recurses := true, plainKeys := false, apart := false }
def IdealPlaysSaid : Prop := idealPlaysRow.holds Try.pinned (OpenSpec.ofChange idealPlaysSpec)

/-- ITS FALSE NEIGHBOUR: 'it returns false'. Refute it at one input. -/
def idealPlaysWrong : ChangeSpec := { name := "idealPlays", fn := fun _ => fun
  | [d1, d2] => { results := [.lit (.bool false)], args := [d1, d2] }
  | _ => none }
def IdealPlaysWrongFalsely : Prop := idealPlaysRow.holds Try.pinned (OpenSpec.ofChange idealPlaysWrong)

/-- 'ragpickerlaw.ReplicaPlays': WHATEVER THE INPUT: true; the input reads as it did. -/
def replicaPlaysSpec : ChangeSpec := { name := "replicaPlays", fn := fun _ => fun
  | [d1, d2] => { results := [.lit (.bool true)], args := [d1, d2] }
  | _ => none }
def replicaPlaysRow : OpenClaim := { program := "ytjphckfbbiehdaa", sum := "e0c71367864baabad34741378409cd079f1fb36891a64753e517590ba31c48b9", func := "ragpicker/ragpickerlaw.ReplicaPlays", spec := "replicaPlays", unfollowed := true, recurses := true, plainKeys := false, apart := false }
def ReplicaPlaysSaid : Prop := replicaPlaysRow.holds Try.pinned (OpenSpec.ofChange replicaPlaysSpec)

/-- ITS FALSE NEIGHBOUR: 'it returns false'. Refute it at one input. -/
def replicaPlaysWrong : ChangeSpec := { name := "replicaPlays", fn := fun _ => fun
  | [d1, d2] => { results := [.lit (.bool false)], args := [d1, d2] }
  | _ => none }
def ReplicaPlaysWrongFalsely : Prop := replicaPlaysRow.holds Try.pinned (OpenSpec.ofChange replicaPlaysWrong)

/-- 'ragpickerlaw.GenPlays': WHATEVER THE INPUT: true; the input reads as it did. -/
def genPlaysSpec : ChangeSpec := { name := "genPlays", fn := fun _ => fun
  | [d1, d2, d3] => { results := [.lit (.bool true)], args := [d1, d2, d3] }
  | _ => none }
def genPlaysRow : OpenClaim := { program := "ytjphckfbbiehdaa", sum := "e0c71367864baabad34741378409cd079f1fb36891a64753e517590ba31c48b9", func := "ragpicker/ragpickerlaw.GenPlays", spec := "genPlays", unfollowed := true, recurses := true, plainKeys := false, apart := false }
def GenPlaysSaid : Prop := genPlaysRow.holds Try.pinned (OpenSpec.ofChange genPlaysSpec)

/-- ITS FALSE NEIGHBOUR: 'it returns false'. Refute it at one input. -/
def genPlaysWrong : ChangeSpec := { name := "genPlays", fn := fun _ => fun
  | [d1, d2, d3] => { results := [.lit (.bool false)], args := [d1, d2, d3] }
  | _ => none }
def GenPlaysWrongFalsely : Prop := genPlaysRow.holds Try.pinned (OpenSpec.ofChange genPlaysWrong)

/-- 'ragpickerlaw.TriPlays': WHATEVER THE INPUT: true; the input reads as it did. -/
def triPlaysSpec : ChangeSpec := { name := "triPlays", fn := fun _ => fun
  | [d1, d2, d3] => { results := [.lit (.bool true)], args := [d1, d2, d3] }
  | _ => none }
def triPlaysRow : OpenClaim := { program := "ytjphckfbbiehdaa", sum := "e0c71367864baabad34741378409cd079f1fb36891a64753e517590ba31c48b9", func := "ragpicker/ragpickerlaw.TriPlays", spec := "triPlays", unfollowed := true, recurses := true, plainKeys := false, apart := false }
def TriPlaysSaid : Prop := triPlaysRow.holds Try.pinned (OpenSpec.ofChange triPlaysSpec)

/-- ITS FALSE NEIGHBOUR: 'it returns false'. Refute it at one input. -/
def triPlaysWrong : ChangeSpec := { name := "triPlays", fn := fun _ => fun
  | [d1, d2, d3] => { results := [.lit (.bool false)], args := [d1, d2, d3] }
  | _ => none }
def TriPlaysWrongFalsely : Prop := triPlaysRow.holds Try.pinned (OpenSpec.ofChange triPlaysWrong)

/- THE SECOND FORM. 'bulk': how many values and letters a reading holds, each counted each time it is reached (what is shared counts as often as it is met; a slice's spare places count too). A statement '..UptoSaid' is the law's where the arguments, and the package variables that the reading takes, are together of bulk at most 1048576: NARROWER than '..Said'. Prove '..Said' where nothing that the law and all that it calls make is longer than what came in: it says more and counts as full. Else prove '..UptoSaid'. A law counts once. -/
mutual
def uptoBulk {H : Type} : DataW H → Nat
  | .lit (.string bytes) => bytes.length + 1
  | .lit _ => 1
  | .nil => 1
  | .ptr d => uptoBulk d + 1
  | .slice elems spare => uptoBulkAll elems + uptoBulkAll spare + 1
  | .agg parts => uptoBulkAll parts + 1
  | .iface _ d => uptoBulk d + 1
  | .map entries => uptoBulkEntries entries + 1
  | .held _ => 1
def uptoBulkAll {H : Type} : List (DataW H) → Nat
  | [] => 0
  | d :: r => uptoBulk d + uptoBulkAll r
def uptoBulkEntries {H : Type} : List (Lit × DataW H) → Nat
  | [] => 0
  | x :: r => uptoBulkEntry x + uptoBulkEntries r
def uptoBulkEntry {H : Type} : Lit × DataW H → Nat
  | (.string bytes, d) => bytes.length + uptoBulk d + 1
  | (_, d) => uptoBulk d + 1
 end
def uptoSmall : (H : Type) → List (DataW H) → Bool := fun _ ds => decide (uptoBulkAll ds ≤ 1048576)
def OpenSpec.upto (s : _root_.Go.ChangeSpec) : _root_.Go.OpenSpec := { _root_.Go.OpenSpec.ofChange s with cond := some uptoSmall }

/-- 'ragpickertop.TopIdeal', WHERE WHAT IT READS IS OF BULK AT MOST 1048576: true; the input reads as it did. -/
def topIdealUptoRow : OpenClaim := { program := "ytjphckfbbiehdaa", sum := "e0c71367864baabad34741378409cd079f1fb36891a64753e517590ba31c48b9", func := "ragpicker/ragpickertop.TopIdeal", spec := "topIdeal", unfollowed := true, recurses := true, plainKeys := false, apart := false, narrowed := true }
def TopIdealUptoSaid : Prop := topIdealUptoRow.holds Try.pinned (OpenSpec.upto topIdealSpec)

/-- 'ragpickertop.TopRoom', WHERE WHAT IT READS IS OF BULK AT MOST 1048576: true; the input reads as it did. -/
def topRoomUptoRow : OpenClaim := { program := "ytjphckfbbiehdaa", sum := "e0c71367864baabad34741378409cd079f1fb36891a64753e517590ba31c48b9", func := "ragpicker/ragpickertop.TopRoom", spec := "topRoom", unfollowed := true, recurses := true, plainKeys := false, apart := false, narrowed := true }
def TopRoomUptoSaid : Prop := topRoomUptoRow.holds Try.pinned (OpenSpec.upto topRoomSpec)

/-- 'ragpickerlaw.FreePlays', WHERE WHAT IT READS IS OF BULK AT MOST 1048576: true; the input reads as it did. -/
def freePlaysUptoRow : OpenClaim := { program := "ytjphckfbbiehdaa", sum := "e0c71367864baabad34741378409cd079f1fb36891a64753e517590ba31c48b9", func := "ragpicker/ragpickerlaw.FreePlays", spec := "freePlays", inPlace := ["slices.overlaps[ragpicker/api.Block]"], unfollowed := true, recurses := true, plainKeys := false, apart := false, narrowed := true }
def FreePlaysUptoSaid : Prop := freePlaysUptoRow.holds Try.pinned (OpenSpec.upto freePlaysSpec)

/-- 'ragpickerlaw.BuddyPlays', WHERE WHAT IT READS IS OF BULK AT MOST 1048576: true; the input reads as it did. -/
def buddyPlaysUptoRow : OpenClaim := { program := "ytjphckfbbiehdaa", sum := "e0c71367864baabad34741378409cd079f1fb36891a64753e517590ba31c48b9", func := "ragpicker/ragpickerlaw.BuddyPlays", spec := "buddyPlays", unfollowed := true, recurses := true, plainKeys := false, apart := false, narrowed := true }
def BuddyPlaysUptoSaid : Prop := buddyPlaysUptoRow.holds Try.pinned (OpenSpec.upto buddyPlaysSpec)

/-- 'ragpickerlaw.CompsTells', WHERE WHAT IT READS IS OF BULK AT MOST 1048576: true; the input reads as it did. -/
def compsTellsUptoRow : OpenClaim := { program := "ytjphckfbbiehdaa", sum := "e0c71367864baabad34741378409cd079f1fb36891a64753e517590ba31c48b9", func := "ragpicker/ragpickerlaw.CompsTells", spec := "compsTells", unfollowed := true, recurses := true, plainKeys := false, apart := false, narrowed := true }
def CompsTellsUptoSaid : Prop := compsTellsUptoRow.holds Try.pinned (OpenSpec.upto compsTellsSpec)

/-- 'ragpickerlaw.RunPlays', WHERE WHAT IT READS IS OF BULK AT MOST 1048576: true; the input reads as it did. -/
def runPlaysUptoRow : OpenClaim := { program := "ytjphckfbbiehdaa", sum := "e0c71367864baabad34741378409cd079f1fb36891a64753e517590ba31c48b9", func := "ragpicker/ragpickerlaw.RunPlays", spec := "runPlays", unfollowed := true, recurses := true, plainKeys := false, apart := false, narrowed := true }
def RunPlaysUptoSaid : Prop := runPlaysUptoRow.holds Try.pinned (OpenSpec.upto runPlaysSpec)

/-- 'ragpickerlaw.CountPlays', WHERE WHAT IT READS IS OF BULK AT MOST 1048576: true; the input reads as it did. -/
def countPlaysUptoRow : OpenClaim := { program := "ytjphckfbbiehdaa", sum := "e0c71367864baabad34741378409cd079f1fb36891a64753e517590ba31c48b9", func := "ragpicker/ragpickerlaw.CountPlays", spec := "countPlays", unfollowed := true, recurses := true, plainKeys := false, apart := false, narrowed := true }
def CountPlaysUptoSaid : Prop := countPlaysUptoRow.holds Try.pinned (OpenSpec.upto countPlaysSpec)

/-- 'ragpickerlaw.IdealPlays', WHERE WHAT IT READS IS OF BULK AT MOST 1048576: true; the input reads as it did. -/
def idealPlaysUptoRow : OpenClaim := { program := "ytjphckfbbiehdaa", sum := "e0c71367864baabad34741378409cd079f1fb36891a64753e517590ba31c48b9", func := "ragpicker/ragpickerlaw.IdealPlays", spec := "idealPlays", unfollowed := true, recurses := true, plainKeys := false, apart := false, narrowed := true }
def IdealPlaysUptoSaid : Prop := idealPlaysUptoRow.holds Try.pinned (OpenSpec.upto idealPlaysSpec)

/-- 'ragpickerlaw.ReplicaPlays', WHERE WHAT IT READS IS OF BULK AT MOST 1048576: true; the input reads as it did. -/
def replicaPlaysUptoRow : OpenClaim := { program := "ytjphckfbbiehdaa", sum := "e0c71367864baabad34741378409cd079f1fb36891a64753e517590ba31c48b9", func := "ragpicker/ragpickerlaw.ReplicaPlays", spec := "replicaPlays", unfollowed := true, recurses := true, plainKeys := false, apart := false, narrowed := true }
def ReplicaPlaysUptoSaid : Prop := replicaPlaysUptoRow.holds Try.pinned (OpenSpec.upto replicaPlaysSpec)

/-- 'ragpickerlaw.GenPlays', WHERE WHAT IT READS IS OF BULK AT MOST 1048576: true; the input reads as it did. -/
def genPlaysUptoRow : OpenClaim := { program := "ytjphckfbbiehdaa", sum := "e0c71367864baabad34741378409cd079f1fb36891a64753e517590ba31c48b9", func := "ragpicker/ragpickerlaw.GenPlays", spec := "genPlays", unfollowed := true, recurses := true, plainKeys := false, apart := false, narrowed := true }
def GenPlaysUptoSaid : Prop := genPlaysUptoRow.holds Try.pinned (OpenSpec.upto genPlaysSpec)

/-- 'ragpickerlaw.TriPlays', WHERE WHAT IT READS IS OF BULK AT MOST 1048576: true; the input reads as it did. -/
def triPlaysUptoRow : OpenClaim := { program := "ytjphckfbbiehdaa", sum := "e0c71367864baabad34741378409cd079f1fb36891a64753e517590ba31c48b9", func := "ragpicker/ragpickerlaw.TriPlays", spec := "triPlays", unfollowed := true, recurses := true, plainKeys := false, apart := false, narrowed := true }
def TriPlaysUptoSaid : Prop := triPlaysUptoRow.holds Try.pinned (OpenSpec.upto triPlaysSpec)

end Rows
end Go.Proofs.Ytjphckfbbiehdaa
