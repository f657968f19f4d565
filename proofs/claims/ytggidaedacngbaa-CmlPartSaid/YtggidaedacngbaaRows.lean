/-
  No cell of these rows narrows 'for every input' (looked for: loops, veiled, ifaces, maps, wideKeys, modest, calm, conditions, laid).
  DERIVED. THE GIVEN ROWS OF THIS SEAT. 7 by the template 'for every input the law returns true; each argument reads behind the call as it read before'; 0 by the template 'total and deterministic' (their statements: YtggidaedacngbaaTotals.lean).
  GIVEN WITH THE SEED: the statements are not yours to turn. If you find one false, say at which input.
  Laid BY PROGRAM, IN A SANDBOX (cutbox-rows.mjs): the forced cells as the released guide's own fill.sh prints them over the translation 50ed713613d160df… (all of the seat's roots in one cut). By AI agents, Wed Nov 11 2026. No macro, syntax, notation, axiom, sorry.
-/
import Derived.Test.YtggidaedacngbaaChecked
import GoSem.Claim
import GoSem.ClaimJoined
import GoSem.ClaimMapViews
import Derived.JoinedTies
import Derived.KernelRfl
namespace Go.Proofs.Ytggidaedacngbaa
/- THE CELL 'sum', in the pinned program and in every row, IS THE sha256 OF THE DUMP (.gsa) THAT YtggidaedacngbaaProg.lean LOADS. Nothing in Lean hashes anything: it is a label: what it is worth is what the hold of that sum in a sandbox is worth. -/
noncomputable def Try.pinned : Pinned := { name := "ytggidaedacngbaa", sum := "50ed713613d160dfa13e9adbfa047119a847e9d4f6f153241b72988c8bda1e5e", checked := Try.checked }
namespace Rows
def none {H : Type} : Left H := { results := [], args := [] }

/-- 'backwaterlaw08.CmlOptimises': WHATEVER THE INPUT: true; the input reads as it did. -/
def cmlOptimisesSpec : ChangeSpec := { name := "cmlOptimises", fn := fun _ => fun
  | [d] => { results := [.lit (.bool true)], args := [d] }
  | _ => none }
def cmlOptimisesRow : OpenClaim := { program := "ytggidaedacngbaa", sum := "50ed713613d160dfa13e9adbfa047119a847e9d4f6f153241b72988c8bda1e5e", func := "backwater/backwaterlaw08.CmlOptimises", spec := "cmlOptimises", unfollowed := true, recurses := true, plainKeys := false, apart := false }
def CmlOptimisesSaid : Prop := cmlOptimisesRow.holds Try.pinned (OpenSpec.ofChange cmlOptimisesSpec)

/-- ITS FALSE NEIGHBOUR: 'it returns false'. Refute it at one input. -/
def cmlOptimisesWrong : ChangeSpec := { name := "cmlOptimises", fn := fun _ => fun
  | [d] => { results := [.lit (.bool false)], args := [d] }
  | _ => none }
def CmlOptimisesWrongFalsely : Prop := cmlOptimisesRow.holds Try.pinned (OpenSpec.ofChange cmlOptimisesWrong)

/-- 'backwaterlaw08.CmlTwice': WHATEVER THE INPUT: true; the input reads as it did. -/
def cmlTwiceSpec : ChangeSpec := { name := "cmlTwice", fn := fun _ => fun
  | [d] => { results := [.lit (.bool true)], args := [d] }
  | _ => none }
def cmlTwiceRow : OpenClaim := { program := "ytggidaedacngbaa", sum := "50ed713613d160dfa13e9adbfa047119a847e9d4f6f153241b72988c8bda1e5e", func := "backwater/backwaterlaw08.CmlTwice", spec := "cmlTwice", unfollowed := true, recurses := true, plainKeys := false, apart := false }
def CmlTwiceSaid : Prop := cmlTwiceRow.holds Try.pinned (OpenSpec.ofChange cmlTwiceSpec)

/-- ITS FALSE NEIGHBOUR: 'it returns false'. Refute it at one input. -/
def cmlTwiceWrong : ChangeSpec := { name := "cmlTwice", fn := fun _ => fun
  | [d] => { results := [.lit (.bool false)], args := [d] }
  | _ => none }
def CmlTwiceWrongFalsely : Prop := cmlTwiceRow.holds Try.pinned (OpenSpec.ofChange cmlTwiceWrong)

/-- 'backwaterlaw08.CmlPart': WHATEVER THE INPUT: true; the input reads as it did. -/
def cmlPartSpec : ChangeSpec := { name := "cmlPart", fn := fun _ => fun
  | [d] => { results := [.lit (.bool true)], args := [d] }
  | _ => none }
def cmlPartRow : OpenClaim := { program := "ytggidaedacngbaa", sum := "50ed713613d160dfa13e9adbfa047119a847e9d4f6f153241b72988c8bda1e5e", func := "backwater/backwaterlaw08.CmlPart", spec := "cmlPart", unfollowed := true, recurses := true, plainKeys := false, apart := false }
def CmlPartSaid : Prop := cmlPartRow.holds Try.pinned (OpenSpec.ofChange cmlPartSpec)

/-- ITS FALSE NEIGHBOUR: 'it returns false'. Refute it at one input. -/
def cmlPartWrong : ChangeSpec := { name := "cmlPart", fn := fun _ => fun
  | [d] => { results := [.lit (.bool false)], args := [d] }
  | _ => none }
def CmlPartWrongFalsely : Prop := cmlPartRow.holds Try.pinned (OpenSpec.ofChange cmlPartWrong)

/-- 'backwaterlaw08.CmlChunks': WHATEVER THE INPUT: true; the input reads as it did. -/
def cmlChunksSpec : ChangeSpec := { name := "cmlChunks", fn := fun _ => fun
  | [d1, d2] => { results := [.lit (.bool true)], args := [d1, d2] }
  | _ => none }
def cmlChunksRow : OpenClaim := { program := "ytggidaedacngbaa", sum := "50ed713613d160dfa13e9adbfa047119a847e9d4f6f153241b72988c8bda1e5e", func := "backwater/backwaterlaw08.CmlChunks", spec := "cmlChunks", unfollowed := true, recurses := true, plainKeys := false, apart := false }
def CmlChunksSaid : Prop := cmlChunksRow.holds Try.pinned (OpenSpec.ofChange cmlChunksSpec)

/-- ITS FALSE NEIGHBOUR: 'it returns false'. Refute it at one input. -/
def cmlChunksWrong : ChangeSpec := { name := "cmlChunks", fn := fun _ => fun
  | [d1, d2] => { results := [.lit (.bool false)], args := [d1, d2] }
  | _ => none }
def CmlChunksWrongFalsely : Prop := cmlChunksRow.holds Try.pinned (OpenSpec.ofChange cmlChunksWrong)

/-- 'backwaterlaw08.CmlEqual': WHATEVER THE INPUT: true; the input reads as it did. -/
def cmlEqualSpec : ChangeSpec := { name := "cmlEqual", fn := fun _ => fun
  | [d1, d2] => { results := [.lit (.bool true)], args := [d1, d2] }
  | _ => none }
def cmlEqualRow : OpenClaim := { program := "ytggidaedacngbaa", sum := "50ed713613d160dfa13e9adbfa047119a847e9d4f6f153241b72988c8bda1e5e", func := "backwater/backwaterlaw08.CmlEqual", spec := "cmlEqual", unfollowed := true, recurses := true, plainKeys := false, apart := false }
def CmlEqualSaid : Prop := cmlEqualRow.holds Try.pinned (OpenSpec.ofChange cmlEqualSpec)

/-- ITS FALSE NEIGHBOUR: 'it returns false'. Refute it at one input. -/
def cmlEqualWrong : ChangeSpec := { name := "cmlEqual", fn := fun _ => fun
  | [d1, d2] => { results := [.lit (.bool false)], args := [d1, d2] }
  | _ => none }
def CmlEqualWrongFalsely : Prop := cmlEqualRow.holds Try.pinned (OpenSpec.ofChange cmlEqualWrong)

/-- 'backwaterlaw08.CmlCuts': WHATEVER THE INPUT: true; the input reads as it did. -/
def cmlCutsSpec : ChangeSpec := { name := "cmlCuts", fn := fun _ => fun
  | [d1, d2, d3] => { results := [.lit (.bool true)], args := [d1, d2, d3] }
  | _ => none }
def cmlCutsRow : OpenClaim := { program := "ytggidaedacngbaa", sum := "50ed713613d160dfa13e9adbfa047119a847e9d4f6f153241b72988c8bda1e5e", func := "backwater/backwaterlaw08.CmlCuts", spec := "cmlCuts", unfollowed := true, recurses := true, plainKeys := false, apart := false }
def CmlCutsSaid : Prop := cmlCutsRow.holds Try.pinned (OpenSpec.ofChange cmlCutsSpec)

/-- ITS FALSE NEIGHBOUR: 'it returns false'. Refute it at one input. -/
def cmlCutsWrong : ChangeSpec := { name := "cmlCuts", fn := fun _ => fun
  | [d1, d2, d3] => { results := [.lit (.bool false)], args := [d1, d2, d3] }
  | _ => none }
def CmlCutsWrongFalsely : Prop := cmlCutsRow.holds Try.pinned (OpenSpec.ofChange cmlCutsWrong)

/-- 'backwaterlaw08.CmlJoins': WHATEVER THE INPUT: true; the input reads as it did. -/
def cmlJoinsSpec : ChangeSpec := { name := "cmlJoins", fn := fun _ => fun
  | [d1, d2, d3] => { results := [.lit (.bool true)], args := [d1, d2, d3] }
  | _ => none }
def cmlJoinsRow : OpenClaim := { program := "ytggidaedacngbaa", sum := "50ed713613d160dfa13e9adbfa047119a847e9d4f6f153241b72988c8bda1e5e", func := "backwater/backwaterlaw08.CmlJoins", spec := "cmlJoins", unfollowed := true, recurses := true, plainKeys := false, apart := false }
def CmlJoinsSaid : Prop := cmlJoinsRow.holds Try.pinned (OpenSpec.ofChange cmlJoinsSpec)

/-- ITS FALSE NEIGHBOUR: 'it returns false'. Refute it at one input. -/
def cmlJoinsWrong : ChangeSpec := { name := "cmlJoins", fn := fun _ => fun
  | [d1, d2, d3] => { results := [.lit (.bool false)], args := [d1, d2, d3] }
  | _ => none }
def CmlJoinsWrongFalsely : Prop := cmlJoinsRow.holds Try.pinned (OpenSpec.ofChange cmlJoinsWrong)

/- THE SECOND FORM. 'bulk': how many values and letters a reading holds, each counted each time it is reached (what is shared counts as often as it is met; a slice's spare places count too). A statement '..UptoSaid' is the law's where the arguments, and the package variables that the reading takes, are together of bulk at most 1048576: NARROWER than '..Said'. Prove '..Said' where nothing that the law and all that it calls make is longer than what came in: it says more and counts as full. Else prove '..UptoSaid'. A law counts once. -/
mutual
def uptoBulk {H : Type} : DataW H → Nat
  | .lit (.string bytes) => bytes.length + 1
  | .lit _ => 1
  | .nil => 1
  | .ptr d => uptoBulk d + 1
  | .slice elems spare => uptoBulkAll elems + uptoBulkAll spare + 1
  | .agg parts => uptoBulkAll parts + 1
  | .iface _ d => uptoBulk d + 1
  | .map entries => uptoBulkEntries entries + 1
  | .held _ => 1
def uptoBulkAll {H : Type} : List (DataW H) → Nat
  | [] => 0
  | d :: r => uptoBulk d + uptoBulkAll r
def uptoBulkEntries {H : Type} : List (Lit × DataW H) → Nat
  | [] => 0
  | x :: r => uptoBulkEntry x + uptoBulkEntries r
def uptoBulkEntry {H : Type} : Lit × DataW H → Nat
  | (.string bytes, d) => bytes.length + uptoBulk d + 1
  | (_, d) => uptoBulk d + 1
 end
def uptoSmall : (H : Type) → List (DataW H) → Bool := fun _ ds => decide (uptoBulkAll ds ≤ 1048576)
def OpenSpec.upto (s : _root_.Go.ChangeSpec) : _root_.Go.OpenSpec := { _root_.Go.OpenSpec.ofChange s with cond := some uptoSmall }

/-- 'backwaterlaw08.CmlOptimises', WHERE WHAT IT READS IS OF BULK AT MOST 1048576: true; the input reads as it did. -/
def cmlOptimisesUptoRow : OpenClaim := { program := "ytggidaedacngbaa", sum := "50ed713613d160dfa13e9adbfa047119a847e9d4f6f153241b72988c8bda1e5e", func := "backwater/backwaterlaw08.CmlOptimises", spec := "cmlOptimises", unfollowed := true, recurses := true, plainKeys := false, apart := false, narrowed := true }
def CmlOptimisesUptoSaid : Prop := cmlOptimisesUptoRow.holds Try.pinned (OpenSpec.upto cmlOptimisesSpec)

/-- 'backwaterlaw08.CmlTwice', WHERE WHAT IT READS IS OF BULK AT MOST 1048576: true; the input reads as it did. -/
def cmlTwiceUptoRow : OpenClaim := { program := "ytggidaedacngbaa", sum := "50ed713613d160dfa13e9adbfa047119a847e9d4f6f153241b72988c8bda1e5e", func := "backwater/backwaterlaw08.CmlTwice", spec := "cmlTwice", unfollowed := true, recurses := true, plainKeys := false, apart := false, narrowed := true }
def CmlTwiceUptoSaid : Prop := cmlTwiceUptoRow.holds Try.pinned (OpenSpec.upto cmlTwiceSpec)

/-- 'backwaterlaw08.CmlPart', WHERE WHAT IT READS IS OF BULK AT MOST 1048576: true; the input reads as it did. -/
def cmlPartUptoRow : OpenClaim := { program := "ytggidaedacngbaa", sum := "50ed713613d160dfa13e9adbfa047119a847e9d4f6f153241b72988c8bda1e5e", func := "backwater/backwaterlaw08.CmlPart", spec := "cmlPart", unfollowed := true, recurses := true, plainKeys := false, apart := false, narrowed := true }
def CmlPartUptoSaid : Prop := cmlPartUptoRow.holds Try.pinned (OpenSpec.upto cmlPartSpec)

/-- 'backwaterlaw08.CmlChunks', WHERE WHAT IT READS IS OF BULK AT MOST 1048576: true; the input reads as it did. -/
def cmlChunksUptoRow : OpenClaim := { program := "ytggidaedacngbaa", sum := "50ed713613d160dfa13e9adbfa047119a847e9d4f6f153241b72988c8bda1e5e", func := "backwater/backwaterlaw08.CmlChunks", spec := "cmlChunks", unfollowed := true, recurses := true, plainKeys := false, apart := false, narrowed := true }
def CmlChunksUptoSaid : Prop := cmlChunksUptoRow.holds Try.pinned (OpenSpec.upto cmlChunksSpec)

/-- 'backwaterlaw08.CmlEqual', WHERE WHAT IT READS IS OF BULK AT MOST 1048576: true; the input reads as it did. -/
def cmlEqualUptoRow : OpenClaim := { program := "ytggidaedacngbaa", sum := "50ed713613d160dfa13e9adbfa047119a847e9d4f6f153241b72988c8bda1e5e", func := "backwater/backwaterlaw08.CmlEqual", spec := "cmlEqual", unfollowed := true, recurses := true, plainKeys := false, apart := false, narrowed := true }
def CmlEqualUptoSaid : Prop := cmlEqualUptoRow.holds Try.pinned (OpenSpec.upto cmlEqualSpec)

/-- 'backwaterlaw08.CmlCuts', WHERE WHAT IT READS IS OF BULK AT MOST 1048576: true; the input reads as it did. -/
def cmlCutsUptoRow : OpenClaim := { program := "ytggidaedacngbaa", sum := "50ed713613d160dfa13e9adbfa047119a847e9d4f6f153241b72988c8bda1e5e", func := "backwater/backwaterlaw08.CmlCuts", spec := "cmlCuts", unfollowed := true, recurses := true, plainKeys := false, apart := false, narrowed := true }
def CmlCutsUptoSaid : Prop := cmlCutsUptoRow.holds Try.pinned (OpenSpec.upto cmlCutsSpec)

/-- 'backwaterlaw08.CmlJoins', WHERE WHAT IT READS IS OF BULK AT MOST 1048576: true; the input reads as it did. -/
def cmlJoinsUptoRow : OpenClaim := { program := "ytggidaedacngbaa", sum := "50ed713613d160dfa13e9adbfa047119a847e9d4f6f153241b72988c8bda1e5e", func := "backwater/backwaterlaw08.CmlJoins", spec := "cmlJoins", unfollowed := true, recurses := true, plainKeys := false, apart := false, narrowed := true }
def CmlJoinsUptoSaid : Prop := cmlJoinsUptoRow.holds Try.pinned (OpenSpec.upto cmlJoinsSpec)

end Rows
end Go.Proofs.Ytggidaedacngbaa
