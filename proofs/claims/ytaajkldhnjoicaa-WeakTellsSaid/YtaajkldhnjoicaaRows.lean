/-
  No cell of these rows narrows 'for every input' (looked for: loops, veiled, ifaces, maps, wideKeys, modest, calm, conditions, laid).
  DERIVED. THE GIVEN ROWS OF THIS SEAT. 12 by the template 'for every input the law returns true; each argument reads behind the call as it read before'; 0 by the template 'total and deterministic' (their statements: YtaajkldhnjoicaaTotals.lean).
  GIVEN WITH THE SEED: the statements are not yours to turn. If you find one false, say at which input.
  Laid BY PROGRAM, IN A SANDBOX (cutbox-rows.mjs): the forced cells as the released guide's own fill.sh prints them over the translation c1670e4c9c4f6780… (all of the seat's roots in one cut). By AI agents, Wed Nov 11 2026. No macro, syntax, notation, axiom, sorry.
-/
import Derived.Test.YtaajkldhnjoicaaChecked
import GoSem.Claim
import GoSem.ClaimJoined
import GoSem.ClaimMapViews
import Derived.JoinedTies
import Derived.KernelRfl
namespace Go.Proofs.Ytaajkldhnjoicaa
/- THE CELL 'sum', in the pinned program and in every row, IS THE sha256 OF THE DUMP (.gsa) THAT YtaajkldhnjoicaaProg.lean LOADS. Nothing in Lean hashes anything: it is a label: what it is worth is what the hold of that sum in a sandbox is worth. -/
noncomputable def Try.pinned : Pinned := { name := "ytaajkldhnjoicaa", sum := "c1670e4c9c4f6780eed2757bb9a740a924ca3b583346bca2dddd71400ce2e7fa", checked := Try.checked }
namespace Rows
def none {H : Type} : Left H := { results := [], args := [] }

/-- 'ragpickerlaw.ImagePuts': WHATEVER THE INPUT: true; the input reads as it did. -/
def imagePutsSpec : ChangeSpec := { name := "imagePuts", fn := fun _ => fun
  | [d1, d2] => { results := [.lit (.bool true)], args := [d1, d2] }
  | _ => none }
def imagePutsRow : OpenClaim := { program := "ytaajkldhnjoicaa", sum := "c1670e4c9c4f6780eed2757bb9a740a924ca3b583346bca2dddd71400ce2e7fa", func := "ragpicker/ragpickerlaw.ImagePuts", spec := "imagePuts", unfollowed := true, recurses := true, plainKeys := false, apart := false }
def ImagePutsSaid : Prop := imagePutsRow.holds Try.pinned (OpenSpec.ofChange imagePutsSpec)

/-- ITS FALSE NEIGHBOUR: 'it returns false'. Refute it at one input. -/
def imagePutsWrong : ChangeSpec := { name := "imagePuts", fn := fun _ => fun
  | [d1, d2] => { results := [.lit (.bool false)], args := [d1, d2] }
  | _ => none }
def ImagePutsWrongFalsely : Prop := imagePutsRow.holds Try.pinned (OpenSpec.ofChange imagePutsWrong)

/-- 'ragpickerlaw.PathTells': WHATEVER THE INPUT: true; the input reads as it did. -/
def pathTellsSpec : ChangeSpec := { name := "pathTells", fn := fun _ => fun
  | [d1, d2] => { results := [.lit (.bool true)], args := [d1, d2] }
  | _ => none }
def pathTellsRow : OpenClaim := { program := "ytaajkldhnjoicaa", sum := "c1670e4c9c4f6780eed2757bb9a740a924ca3b583346bca2dddd71400ce2e7fa", func := "ragpicker/ragpickerlaw.PathTells", spec := "pathTells", unfollowed := true, recurses := true, plainKeys := false, apart := false }
def PathTellsSaid : Prop := pathTellsRow.holds Try.pinned (OpenSpec.ofChange pathTellsSpec)

/-- ITS FALSE NEIGHBOUR: 'it returns false'. Refute it at one input. -/
def pathTellsWrong : ChangeSpec := { name := "pathTells", fn := fun _ => fun
  | [d1, d2] => { results := [.lit (.bool false)], args := [d1, d2] }
  | _ => none }
def PathTellsWrongFalsely : Prop := pathTellsRow.holds Try.pinned (OpenSpec.ofChange pathTellsWrong)

/-- 'ragpickerlaw.TrialTells': WHATEVER THE INPUT: true; the input reads as it did. -/
def trialTellsSpec : ChangeSpec := { name := "trialTells", fn := fun _ => fun
  | [d1, d2] => { results := [.lit (.bool true)], args := [d1, d2] }
  | _ => none }
def trialTellsRow : OpenClaim := { program := "ytaajkldhnjoicaa", sum := "c1670e4c9c4f6780eed2757bb9a740a924ca3b583346bca2dddd71400ce2e7fa", func := "ragpicker/ragpickerlaw.TrialTells", spec := "trialTells", unfollowed := true, recurses := true, plainKeys := false, apart := false }
def TrialTellsSaid : Prop := trialTellsRow.holds Try.pinned (OpenSpec.ofChange trialTellsSpec)

/-- ITS FALSE NEIGHBOUR: 'it returns false'. Refute it at one input. -/
def trialTellsWrong : ChangeSpec := { name := "trialTells", fn := fun _ => fun
  | [d1, d2] => { results := [.lit (.bool false)], args := [d1, d2] }
  | _ => none }
def TrialTellsWrongFalsely : Prop := trialTellsRow.holds Try.pinned (OpenSpec.ofChange trialTellsWrong)

/-- 'ragpickerlaw.LastTells': WHATEVER THE INPUT: true; the input reads as it did. -/
def lastTellsSpec : ChangeSpec := { name := "lastTells", fn := fun _ => fun
  | [d1, d2] => { results := [.lit (.bool true)], args := [d1, d2] }
  | _ => none }
def lastTellsRow : OpenClaim := { program := "ytaajkldhnjoicaa", sum := "c1670e4c9c4f6780eed2757bb9a740a924ca3b583346bca2dddd71400ce2e7fa", func := "ragpicker/ragpickerlaw.LastTells", spec := "lastTells", unfollowed := true, recurses := true, plainKeys := false, apart := false }
def LastTellsSaid : Prop := lastTellsRow.holds Try.pinned (OpenSpec.ofChange lastTellsSpec)

/-- ITS FALSE NEIGHBOUR: 'it returns false'. Refute it at one input. -/
def lastTellsWrong : ChangeSpec := { name := "lastTells", fn := fun _ => fun
  | [d1, d2] => { results := [.lit (.bool false)], args := [d1, d2] }
  | _ => none }
def LastTellsWrongFalsely : Prop := lastTellsRow.holds Try.pinned (OpenSpec.ofChange lastTellsWrong)

/-- 'ragpickerlaw.ShareTold': WHATEVER THE INPUT: true; the input reads as it did. -/
def shareToldSpec : ChangeSpec := { name := "shareTold", fn := fun _ => fun
  | [d1, d2, d3] => { results := [.lit (.bool true)], args := [d1, d2, d3] }
  | _ => none }
def shareToldRow : OpenClaim := { program := "ytaajkldhnjoicaa", sum := "c1670e4c9c4f6780eed2757bb9a740a924ca3b583346bca2dddd71400ce2e7fa", func := "ragpicker/ragpickerlaw.ShareTold", spec := "shareTold", unfollowed := true, recurses := true, plainKeys := false, apart := false }
def ShareToldSaid : Prop := shareToldRow.holds Try.pinned (OpenSpec.ofChange shareToldSpec)

/-- ITS FALSE NEIGHBOUR: 'it returns false'. Refute it at one input. -/
def shareToldWrong : ChangeSpec := { name := "shareTold", fn := fun _ => fun
  | [d1, d2, d3] => { results := [.lit (.bool false)], args := [d1, d2, d3] }
  | _ => none }
def ShareToldWrongFalsely : Prop := shareToldRow.holds Try.pinned (OpenSpec.ofChange shareToldWrong)

/-- 'ragpickerlaw.ShareTells': WHATEVER THE INPUT: true; the input reads as it did. -/
def shareTellsSpec : ChangeSpec := { name := "shareTells", fn := fun _ => fun
  | [d] => { results := [.lit (.bool true)], args := [d] }
  | _ => none }
def shareTellsRow : OpenClaim := { program := "ytaajkldhnjoicaa", sum := "c1670e4c9c4f6780eed2757bb9a740a924ca3b583346bca2dddd71400ce2e7fa", func := "ragpicker/ragpickerlaw.ShareTells", spec := "shareTells", unfollowed := true, recurses := true, plainKeys := false, apart := false }
def ShareTellsSaid : Prop := shareTellsRow.holds Try.pinned (OpenSpec.ofChange shareTellsSpec)

/-- ITS FALSE NEIGHBOUR: 'it returns false'. Refute it at one input. -/
def shareTellsWrong : ChangeSpec := { name := "shareTells", fn := fun _ => fun
  | [d] => { results := [.lit (.bool false)], args := [d] }
  | _ => none }
def ShareTellsWrongFalsely : Prop := shareTellsRow.holds Try.pinned (OpenSpec.ofChange shareTellsWrong)

/-- 'ragpickerlaw.GraphCanons': WHATEVER THE INPUT: true; the input reads as it did. -/
def graphCanonsSpec : ChangeSpec := { name := "graphCanons", fn := fun _ => fun
  | [d1, d2] => { results := [.lit (.bool true)], args := [d1, d2] }
  | _ => none }
def graphCanonsRow : OpenClaim := { program := "ytaajkldhnjoicaa", sum := "c1670e4c9c4f6780eed2757bb9a740a924ca3b583346bca2dddd71400ce2e7fa", func := "ragpicker/ragpickerlaw.GraphCanons", spec := "graphCanons", unfollowed := true, recurses := true, plainKeys := false, apart := false }
def GraphCanonsSaid : Prop := graphCanonsRow.holds Try.pinned (OpenSpec.ofChange graphCanonsSpec)

/-- ITS FALSE NEIGHBOUR: 'it returns false'. Refute it at one input. -/
def graphCanonsWrong : ChangeSpec := { name := "graphCanons", fn := fun _ => fun
  | [d1, d2] => { results := [.lit (.bool false)], args := [d1, d2] }
  | _ => none }
def GraphCanonsWrongFalsely : Prop := graphCanonsRow.holds Try.pinned (OpenSpec.ofChange graphCanonsWrong)

/-- 'ragpickerlaw.DualTells': WHATEVER THE INPUT: true; the input reads as it did. -/
def dualTellsSpec : ChangeSpec := { name := "dualTells", fn := fun _ => fun
  | [d1, d2] => { results := [.lit (.bool true)], args := [d1, d2] }
  | _ => none }
def dualTellsRow : OpenClaim := { program := "ytaajkldhnjoicaa", sum := "c1670e4c9c4f6780eed2757bb9a740a924ca3b583346bca2dddd71400ce2e7fa", func := "ragpicker/ragpickerlaw.DualTells", spec := "dualTells", unfollowed := true, recurses := true, plainKeys := false, apart := false }
def DualTellsSaid : Prop := dualTellsRow.holds Try.pinned (OpenSpec.ofChange dualTellsSpec)

/-- ITS FALSE NEIGHBOUR: 'it returns false'. Refute it at one input. -/
def dualTellsWrong : ChangeSpec := { name := "dualTells", fn := fun _ => fun
  | [d1, d2] => { results := [.lit (.bool false)], args := [d1, d2] }
  | _ => none }
def DualTellsWrongFalsely : Prop := dualTellsRow.holds Try.pinned (OpenSpec.ofChange dualTellsWrong)

/-- 'ragpickerlaw.ImageGets': WHATEVER THE INPUT: true; the input reads as it did. -/
def imageGetsSpec : ChangeSpec := { name := "imageGets", fn := fun _ => fun
  | [d] => { results := [.lit (.bool true)], args := [d] }
  | _ => none }
def imageGetsRow : OpenClaim := { program := "ytaajkldhnjoicaa", sum := "c1670e4c9c4f6780eed2757bb9a740a924ca3b583346bca2dddd71400ce2e7fa", func := "ragpicker/ragpickerlaw.ImageGets", spec := "imageGets", unfollowed := true, recurses := true, plainKeys := false, apart := false }
def ImageGetsSaid : Prop := imageGetsRow.holds Try.pinned (OpenSpec.ofChange imageGetsSpec)

/-- ITS FALSE NEIGHBOUR: 'it returns false'. Refute it at one input. -/
def imageGetsWrong : ChangeSpec := { name := "imageGets", fn := fun _ => fun
  | [d] => { results := [.lit (.bool false)], args := [d] }
  | _ => none }
def ImageGetsWrongFalsely : Prop := imageGetsRow.holds Try.pinned (OpenSpec.ofChange imageGetsWrong)

/-- 'ragpickerlaw.WeakTells': WHATEVER THE INPUT: true; the input reads as it did. -/
def weakTellsSpec : ChangeSpec := { name := "weakTells", fn := fun _ => fun
  | [d1, d2] => { results := [.lit (.bool true)], args := [d1, d2] }
  | _ => none }
def weakTellsRow : OpenClaim := { program := "ytaajkldhnjoicaa", sum := "c1670e4c9c4f6780eed2757bb9a740a924ca3b583346bca2dddd71400ce2e7fa", func := "ragpicker/ragpickerlaw.WeakTells", spec := "weakTells", unfollowed := true, recurses := true, plainKeys := false, apart := false }
def WeakTellsSaid : Prop := weakTellsRow.holds Try.pinned (OpenSpec.ofChange weakTellsSpec)

/-- ITS FALSE NEIGHBOUR: 'it returns false'. Refute it at one input. -/
def weakTellsWrong : ChangeSpec := { name := "weakTells", fn := fun _ => fun
  | [d1, d2] => { results := [.lit (.bool false)], args := [d1, d2] }
  | _ => none }
def WeakTellsWrongFalsely : Prop := weakTellsRow.holds Try.pinned (OpenSpec.ofChange weakTellsWrong)

/-- 'ragpickerlaw.DomTells': WHATEVER THE INPUT: true; the input reads as it did. -/
def domTellsSpec : ChangeSpec := { name := "domTells", fn := fun _ => fun
  | [d1, d2] => { results := [.lit (.bool true)], args := [d1, d2] }
  | _ => none }
def domTellsRow : OpenClaim := { program := "ytaajkldhnjoicaa", sum := "c1670e4c9c4f6780eed2757bb9a740a924ca3b583346bca2dddd71400ce2e7fa", func := "ragpicker/ragpickerlaw.DomTells", spec := "domTells", unfollowed := true, recurses := true, plainKeys := false, apart := false }
def DomTellsSaid : Prop := domTellsRow.holds Try.pinned (OpenSpec.ofChange domTellsSpec)

/-- ITS FALSE NEIGHBOUR: 'it returns false'. Refute it at one input. -/
def domTellsWrong : ChangeSpec := { name := "domTells", fn := fun _ => fun
  | [d1, d2] => { results := [.lit (.bool false)], args := [d1, d2] }
  | _ => none }
def DomTellsWrongFalsely : Prop := domTellsRow.holds Try.pinned (OpenSpec.ofChange domTellsWrong)

/-- 'ragpickerlaw.GraphTells': WHATEVER THE INPUT: true; the input reads as it did. -/
def graphTellsSpec : ChangeSpec := { name := "graphTells", fn := fun _ => fun
  | [d] => { results := [.lit (.bool true)], args := [d] }
  | _ => none }
def graphTellsRow : OpenClaim := { program := "ytaajkldhnjoicaa", sum := "c1670e4c9c4f6780eed2757bb9a740a924ca3b583346bca2dddd71400ce2e7fa", func := "ragpicker/ragpickerlaw.GraphTells", spec := "graphTells", unfollowed := true, recurses := true, plainKeys := false, apart := false }
def GraphTellsSaid : Prop := graphTellsRow.holds Try.pinned (OpenSpec.ofChange graphTellsSpec)

/-- ITS FALSE NEIGHBOUR: 'it returns false'. Refute it at one input. -/
def graphTellsWrong : ChangeSpec := { name := "graphTells", fn := fun _ => fun
  | [d] => { results := [.lit (.bool false)], args := [d] }
  | _ => none }
def GraphTellsWrongFalsely : Prop := graphTellsRow.holds Try.pinned (OpenSpec.ofChange graphTellsWrong)

/- THE SECOND FORM. 'bulk': how many values and letters a reading holds, each counted each time it is reached (what is shared counts as often as it is met; a slice's spare places count too). A statement '..UptoSaid' is the law's where the arguments, and the package variables that the reading takes, are together of bulk at most 1048576: NARROWER than '..Said'. Prove '..Said' where nothing that the law and all that it calls make is longer than what came in: it says more and counts as full. Else prove '..UptoSaid'. A law counts once. -/
mutual
def uptoBulk {H : Type} : DataW H → Nat
  | .lit (.string bytes) => bytes.length + 1
  | .lit _ => 1
  | .nil => 1
  | .ptr d => uptoBulk d + 1
  | .slice elems spare => uptoBulkAll elems + uptoBulkAll spare + 1
  | .agg parts => uptoBulkAll parts + 1
  | .iface _ d => uptoBulk d + 1
  | .map entries => uptoBulkEntries entries + 1
  | .held _ => 1
def uptoBulkAll {H : Type} : List (DataW H) → Nat
  | [] => 0
  | d :: r => uptoBulk d + uptoBulkAll r
def uptoBulkEntries {H : Type} : List (Lit × DataW H) → Nat
  | [] => 0
  | x :: r => uptoBulkEntry x + uptoBulkEntries r
def uptoBulkEntry {H : Type} : Lit × DataW H → Nat
  | (.string bytes, d) => bytes.length + uptoBulk d + 1
  | (_, d) => uptoBulk d + 1
 end
def uptoSmall : (H : Type) → List (DataW H) → Bool := fun _ ds => decide (uptoBulkAll ds ≤ 1048576)
def OpenSpec.upto (s : _root_.Go.ChangeSpec) : _root_.Go.OpenSpec := { _root_.Go.OpenSpec.ofChange s with cond := some uptoSmall }

/-- 'ragpickerlaw.ImagePuts', WHERE WHAT IT READS IS OF BULK AT MOST 1048576: true; the input reads as it did. -/
def imagePutsUptoRow : OpenClaim := { program := "ytaajkldhnjoicaa", sum := "c1670e4c9c4f6780eed2757bb9a740a924ca3b583346bca2dddd71400ce2e7fa", func := "ragpicker/ragpickerlaw.ImagePuts", spec := "imagePuts", unfollowed := true, recurses := true, plainKeys := false, apart := false, narrowed := true }
def ImagePutsUptoSaid : Prop := imagePutsUptoRow.holds Try.pinned (OpenSpec.upto imagePutsSpec)

/-- 'ragpickerlaw.PathTells', WHERE WHAT IT READS IS OF BULK AT MOST 1048576: true; the input reads as it did. -/
def pathTellsUptoRow : OpenClaim := { program := "ytaajkldhnjoicaa", sum := "c1670e4c9c4f6780eed2757bb9a740a924ca3b583346bca2dddd71400ce2e7fa", func := "ragpicker/ragpickerlaw.PathTells", spec := "pathTells", unfollowed := true, recurses := true, plainKeys := false, apart := false, narrowed := true }
def PathTellsUptoSaid : Prop := pathTellsUptoRow.holds Try.pinned (OpenSpec.upto pathTellsSpec)

/-- 'ragpickerlaw.TrialTells', WHERE WHAT IT READS IS OF BULK AT MOST 1048576: true; the input reads as it did. -/
def trialTellsUptoRow : OpenClaim := { program := "ytaajkldhnjoicaa", sum := "c1670e4c9c4f6780eed2757bb9a740a924ca3b583346bca2dddd71400ce2e7fa", func := "ragpicker/ragpickerlaw.TrialTells", spec := "trialTells", unfollowed := true, recurses := true, plainKeys := false, apart := false, narrowed := true }
def TrialTellsUptoSaid : Prop := trialTellsUptoRow.holds Try.pinned (OpenSpec.upto trialTellsSpec)

/-- 'ragpickerlaw.LastTells', WHERE WHAT IT READS IS OF BULK AT MOST 1048576: true; the input reads as it did. -/
def lastTellsUptoRow : OpenClaim := { program := "ytaajkldhnjoicaa", sum := "c1670e4c9c4f6780eed2757bb9a740a924ca3b583346bca2dddd71400ce2e7fa", func := "ragpicker/ragpickerlaw.LastTells", spec := "lastTells", unfollowed := true, recurses := true, plainKeys := false, apart := false, narrowed := true }
def LastTellsUptoSaid : Prop := lastTellsUptoRow.holds Try.pinned (OpenSpec.upto lastTellsSpec)

/-- 'ragpickerlaw.ShareTold', WHERE WHAT IT READS IS OF BULK AT MOST 1048576: true; the input reads as it did. -/
def shareToldUptoRow : OpenClaim := { program := "ytaajkldhnjoicaa", sum := "c1670e4c9c4f6780eed2757bb9a740a924ca3b583346bca2dddd71400ce2e7fa", func := "ragpicker/ragpickerlaw.ShareTold", spec := "shareTold", unfollowed := true, recurses := true, plainKeys := false, apart := false, narrowed := true }
def ShareToldUptoSaid : Prop := shareToldUptoRow.holds Try.pinned (OpenSpec.upto shareToldSpec)

/-- 'ragpickerlaw.ShareTells', WHERE WHAT IT READS IS OF BULK AT MOST 1048576: true; the input reads as it did. -/
def shareTellsUptoRow : OpenClaim := { program := "ytaajkldhnjoicaa", sum := "c1670e4c9c4f6780eed2757bb9a740a924ca3b583346bca2dddd71400ce2e7fa", func := "ragpicker/ragpickerlaw.ShareTells", spec := "shareTells", unfollowed := true, recurses := true, plainKeys := false, apart := false, narrowed := true }
def ShareTellsUptoSaid : Prop := shareTellsUptoRow.holds Try.pinned (OpenSpec.upto shareTellsSpec)

/-- 'ragpickerlaw.GraphCanons', WHERE WHAT IT READS IS OF BULK AT MOST 1048576: true; the input reads as it did. -/
def graphCanonsUptoRow : OpenClaim := { program := "ytaajkldhnjoicaa", sum := "c1670e4c9c4f6780eed2757bb9a740a924ca3b583346bca2dddd71400ce2e7fa", func := "ragpicker/ragpickerlaw.GraphCanons", spec := "graphCanons", unfollowed := true, recurses := true, plainKeys := false, apart := false, narrowed := true }
def GraphCanonsUptoSaid : Prop := graphCanonsUptoRow.holds Try.pinned (OpenSpec.upto graphCanonsSpec)

/-- 'ragpickerlaw.DualTells', WHERE WHAT IT READS IS OF BULK AT MOST 1048576: true; the input reads as it did. -/
def dualTellsUptoRow : OpenClaim := { program := "ytaajkldhnjoicaa", sum := "c1670e4c9c4f6780eed2757bb9a740a924ca3b583346bca2dddd71400ce2e7fa", func := "ragpicker/ragpickerlaw.DualTells", spec := "dualTells", unfollowed := true, recurses := true, plainKeys := false, apart := false, narrowed := true }
def DualTellsUptoSaid : Prop := dualTellsUptoRow.holds Try.pinned (OpenSpec.upto dualTellsSpec)

/-- 'ragpickerlaw.ImageGets', WHERE WHAT IT READS IS OF BULK AT MOST 1048576: true; the input reads as it did. -/
def imageGetsUptoRow : OpenClaim := { program := "ytaajkldhnjoicaa", sum := "c1670e4c9c4f6780eed2757bb9a740a924ca3b583346bca2dddd71400ce2e7fa", func := "ragpicker/ragpickerlaw.ImageGets", spec := "imageGets", unfollowed := true, recurses := true, plainKeys := false, apart := false, narrowed := true }
def ImageGetsUptoSaid : Prop := imageGetsUptoRow.holds Try.pinned (OpenSpec.upto imageGetsSpec)

/-- 'ragpickerlaw.WeakTells', WHERE WHAT IT READS IS OF BULK AT MOST 1048576: true; the input reads as it did. -/
def weakTellsUptoRow : OpenClaim := { program := "ytaajkldhnjoicaa", sum := "c1670e4c9c4f6780eed2757bb9a740a924ca3b583346bca2dddd71400ce2e7fa", func := "ragpicker/ragpickerlaw.WeakTells", spec := "weakTells", unfollowed := true, recurses := true, plainKeys := false, apart := false, narrowed := true }
def WeakTellsUptoSaid : Prop := weakTellsUptoRow.holds Try.pinned (OpenSpec.upto weakTellsSpec)

/-- 'ragpickerlaw.DomTells', WHERE WHAT IT READS IS OF BULK AT MOST 1048576: true; the input reads as it did. -/
def domTellsUptoRow : OpenClaim := { program := "ytaajkldhnjoicaa", sum := "c1670e4c9c4f6780eed2757bb9a740a924ca3b583346bca2dddd71400ce2e7fa", func := "ragpicker/ragpickerlaw.DomTells", spec := "domTells", unfollowed := true, recurses := true, plainKeys := false, apart := false, narrowed := true }
def DomTellsUptoSaid : Prop := domTellsUptoRow.holds Try.pinned (OpenSpec.upto domTellsSpec)

/-- 'ragpickerlaw.GraphTells', WHERE WHAT IT READS IS OF BULK AT MOST 1048576: true; the input reads as it did. -/
def graphTellsUptoRow : OpenClaim := { program := "ytaajkldhnjoicaa", sum := "c1670e4c9c4f6780eed2757bb9a740a924ca3b583346bca2dddd71400ce2e7fa", func := "ragpicker/ragpickerlaw.GraphTells", spec := "graphTells", unfollowed := true, recurses := true, plainKeys := false, apart := false, narrowed := true }
def GraphTellsUptoSaid : Prop := graphTellsUptoRow.holds Try.pinned (OpenSpec.upto graphTellsSpec)

end Rows
end Go.Proofs.Ytaajkldhnjoicaa
