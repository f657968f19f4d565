/-
  No cell of these rows narrows 'for every input' (looked for: loops, veiled, ifaces, maps, wideKeys, modest, calm, conditions, laid).
  DERIVED. THE GIVEN ROWS OF THIS SEAT. 8 by the template 'for every input the law returns true; each argument reads behind the call as it read before'; 0 by the template 'total and deterministic' (their statements: YtpkpihcdbgckkaaTotals.lean).
  GIVEN WITH THE SEED: the statements are not yours to turn. If you find one false, say at which input.
  Laid BY PROGRAM, IN A SANDBOX (cutbox-rows.mjs): the forced cells as the released guide's own fill.sh prints them over the translation e36c4fdaf267d164… (all of the seat's roots in one cut). By AI agents, Wed Nov 11 2026. No macro, syntax, notation, axiom, sorry.
-/
import Derived.Test.YtpkpihcdbgckkaaChecked
import GoSem.Claim
import GoSem.ClaimJoined
import GoSem.ClaimMapViews
import Derived.JoinedTies
import Derived.KernelRfl
namespace Go.Proofs.Ytpkpihcdbgckkaa
/- THE CELL 'sum', in the pinned program and in every row, IS THE sha256 OF THE DUMP (.gsa) THAT YtpkpihcdbgckkaaProg.lean LOADS. Nothing in Lean hashes anything: it is a label: what it is worth is what the hold of that sum in a sandbox is worth. -/
noncomputable def Try.pinned : Pinned := { name := "ytpkpihcdbgckkaa", sum := "e36c4fdaf267d164ff65007d3c33bfcce9834d5327ec0a1942e8081036f3cc12", checked := Try.checked }
namespace Rows
def none {H : Type} : Left H := { results := [], args := [] }

/-- 'backwaterlaw11.RpcOlder': WHATEVER THE INPUT: true; the input reads as it did. -/
def rpcOlderSpec : ChangeSpec := { name := "rpcOlder", fn := fun _ => fun
  | [d1, d2] => { results := [.lit (.bool true)], args := [d1, d2] }
  | _ => none }
def rpcOlderRow : OpenClaim := { program := "ytpkpihcdbgckkaa", sum := "e36c4fdaf267d164ff65007d3c33bfcce9834d5327ec0a1942e8081036f3cc12", func := "backwater/backwaterlaw11.RpcOlder", spec := "rpcOlder", apart := false }
def RpcOlderSaid : Prop := rpcOlderRow.holds Try.pinned (OpenSpec.ofChange rpcOlderSpec)

/-- ITS FALSE NEIGHBOUR: 'it returns false'. Refute it at one input. -/
def rpcOlderWrong : ChangeSpec := { name := "rpcOlder", fn := fun _ => fun
  | [d1, d2] => { results := [.lit (.bool false)], args := [d1, d2] }
  | _ => none }
def RpcOlderWrongFalsely : Prop := rpcOlderRow.holds Try.pinned (OpenSpec.ofChange rpcOlderWrong)

/-- 'backwaterlaw11.RpcWaits': WHATEVER THE INPUT: true; the input reads as it did. -/
def rpcWaitsSpec : ChangeSpec := { name := "rpcWaits", fn := fun _ => fun
  | [d] => { results := [.lit (.bool true)], args := [d] }
  | _ => none }
def rpcWaitsRow : OpenClaim := { program := "ytpkpihcdbgckkaa", sum := "e36c4fdaf267d164ff65007d3c33bfcce9834d5327ec0a1942e8081036f3cc12", func := "backwater/backwaterlaw11.RpcWaits", spec := "rpcWaits", apart := false }
def RpcWaitsSaid : Prop := rpcWaitsRow.holds Try.pinned (OpenSpec.ofChange rpcWaitsSpec)

/-- ITS FALSE NEIGHBOUR: 'it returns false'. Refute it at one input. -/
def rpcWaitsWrong : ChangeSpec := { name := "rpcWaits", fn := fun _ => fun
  | [d] => { results := [.lit (.bool false)], args := [d] }
  | _ => none }
def RpcWaitsWrongFalsely : Prop := rpcWaitsRow.holds Try.pinned (OpenSpec.ofChange rpcWaitsWrong)

/-- 'backwaterlaw11.RpcOnce': WHATEVER THE INPUT: true; the input reads as it did. -/
def rpcOnceSpec : ChangeSpec := { name := "rpcOnce", fn := fun _ => fun
  | [d1, d2] => { results := [.lit (.bool true)], args := [d1, d2] }
  | _ => none }
def rpcOnceRow : OpenClaim := { program := "ytpkpihcdbgckkaa", sum := "e36c4fdaf267d164ff65007d3c33bfcce9834d5327ec0a1942e8081036f3cc12", func := "backwater/backwaterlaw11.RpcOnce", spec := "rpcOnce", apart := false }
def RpcOnceSaid : Prop := rpcOnceRow.holds Try.pinned (OpenSpec.ofChange rpcOnceSpec)

/-- ITS FALSE NEIGHBOUR: 'it returns false'. Refute it at one input. -/
def rpcOnceWrong : ChangeSpec := { name := "rpcOnce", fn := fun _ => fun
  | [d1, d2] => { results := [.lit (.bool false)], args := [d1, d2] }
  | _ => none }
def RpcOnceWrongFalsely : Prop := rpcOnceRow.holds Try.pinned (OpenSpec.ofChange rpcOnceWrong)

/-- 'backwaterlaw11.RpcAgain': WHATEVER THE INPUT: true; the input reads as it did. -/
def rpcAgainSpec : ChangeSpec := { name := "rpcAgain", fn := fun _ => fun
  | [d1, d2, d3] => { results := [.lit (.bool true)], args := [d1, d2, d3] }
  | _ => none }
def rpcAgainRow : OpenClaim := { program := "ytpkpihcdbgckkaa", sum := "e36c4fdaf267d164ff65007d3c33bfcce9834d5327ec0a1942e8081036f3cc12", func := "backwater/backwaterlaw11.RpcAgain", spec := "rpcAgain", apart := false }
def RpcAgainSaid : Prop := rpcAgainRow.holds Try.pinned (OpenSpec.ofChange rpcAgainSpec)

/-- ITS FALSE NEIGHBOUR: 'it returns false'. Refute it at one input. -/
def rpcAgainWrong : ChangeSpec := { name := "rpcAgain", fn := fun _ => fun
  | [d1, d2, d3] => { results := [.lit (.bool false)], args := [d1, d2, d3] }
  | _ => none }
def RpcAgainWrongFalsely : Prop := rpcAgainRow.holds Try.pinned (OpenSpec.ofChange rpcAgainWrong)

/-- 'backwaterlaw11.RpcPlays': WHATEVER THE INPUT: true; the input reads as it did. -/
def rpcPlaysSpec : ChangeSpec := { name := "rpcPlays", fn := fun _ => fun
  | [d] => { results := [.lit (.bool true)], args := [d] }
  | _ => none }
def rpcPlaysRow : OpenClaim := { program := "ytpkpihcdbgckkaa", sum := "e36c4fdaf267d164ff65007d3c33bfcce9834d5327ec0a1942e8081036f3cc12", func := "backwater/backwaterlaw11.RpcPlays", spec := "rpcPlays", apart := false }
def RpcPlaysSaid : Prop := rpcPlaysRow.holds Try.pinned (OpenSpec.ofChange rpcPlaysSpec)

/-- ITS FALSE NEIGHBOUR: 'it returns false'. Refute it at one input. -/
def rpcPlaysWrong : ChangeSpec := { name := "rpcPlays", fn := fun _ => fun
  | [d] => { results := [.lit (.bool false)], args := [d] }
  | _ => none }
def RpcPlaysWrongFalsely : Prop := rpcPlaysRow.holds Try.pinned (OpenSpec.ofChange rpcPlaysWrong)

/-- 'backwaterlaw11.RpcForks': WHATEVER THE INPUT: true; the input reads as it did. -/
def rpcForksSpec : ChangeSpec := { name := "rpcForks", fn := fun _ => fun
  | [d1, d2] => { results := [.lit (.bool true)], args := [d1, d2] }
  | _ => none }
def rpcForksRow : OpenClaim := { program := "ytpkpihcdbgckkaa", sum := "e36c4fdaf267d164ff65007d3c33bfcce9834d5327ec0a1942e8081036f3cc12", func := "backwater/backwaterlaw11.RpcForks", spec := "rpcForks", apart := false }
def RpcForksSaid : Prop := rpcForksRow.holds Try.pinned (OpenSpec.ofChange rpcForksSpec)

/-- ITS FALSE NEIGHBOUR: 'it returns false'. Refute it at one input. -/
def rpcForksWrong : ChangeSpec := { name := "rpcForks", fn := fun _ => fun
  | [d1, d2] => { results := [.lit (.bool false)], args := [d1, d2] }
  | _ => none }
def RpcForksWrongFalsely : Prop := rpcForksRow.holds Try.pinned (OpenSpec.ofChange rpcForksWrong)

/-- 'backwaterlaw11.RpcNone': WHATEVER THE INPUT: true; the input reads as it did. -/
def rpcNoneSpec : ChangeSpec := { name := "rpcNone", fn := fun _ => fun
  | [d1, d2] => { results := [.lit (.bool true)], args := [d1, d2] }
  | _ => none }
def rpcNoneRow : OpenClaim := { program := "ytpkpihcdbgckkaa", sum := "e36c4fdaf267d164ff65007d3c33bfcce9834d5327ec0a1942e8081036f3cc12", func := "backwater/backwaterlaw11.RpcNone", spec := "rpcNone", apart := false }
def RpcNoneSaid : Prop := rpcNoneRow.holds Try.pinned (OpenSpec.ofChange rpcNoneSpec)

/-- ITS FALSE NEIGHBOUR: 'it returns false'. Refute it at one input. -/
def rpcNoneWrong : ChangeSpec := { name := "rpcNone", fn := fun _ => fun
  | [d1, d2] => { results := [.lit (.bool false)], args := [d1, d2] }
  | _ => none }
def RpcNoneWrongFalsely : Prop := rpcNoneRow.holds Try.pinned (OpenSpec.ofChange rpcNoneWrong)

/-- 'backwaterlaw11.RpcLoads': WHATEVER THE INPUT: true; the input reads as it did. -/
def rpcLoadsSpec : ChangeSpec := { name := "rpcLoads", fn := fun _ => fun
  | [d1, d2] => { results := [.lit (.bool true)], args := [d1, d2] }
  | _ => none }
def rpcLoadsRow : OpenClaim := { program := "ytpkpihcdbgckkaa", sum := "e36c4fdaf267d164ff65007d3c33bfcce9834d5327ec0a1942e8081036f3cc12", func := "backwater/backwaterlaw11.RpcLoads", spec := "rpcLoads", unfollowed := true, recurses := true, apart := false }
def RpcLoadsSaid : Prop := rpcLoadsRow.holds Try.pinned (OpenSpec.ofChange rpcLoadsSpec)

/-- ITS FALSE NEIGHBOUR: 'it returns false'. Refute it at one input. -/
def rpcLoadsWrong : ChangeSpec := { name := "rpcLoads", fn := fun _ => fun
  | [d1, d2] => { results := [.lit (.bool false)], args := [d1, d2] }
  | _ => none }
def RpcLoadsWrongFalsely : Prop := rpcLoadsRow.holds Try.pinned (OpenSpec.ofChange rpcLoadsWrong)

/- THE SECOND FORM. 'bulk': how many values and letters a reading holds, each counted each time it is reached (what is shared counts as often as it is met; a slice's spare places count too). A statement '..UptoSaid' is the law's where the arguments, and the package variables that the reading takes, are together of bulk at most 1048576: NARROWER than '..Said'. Prove '..Said' where nothing that the law and all that it calls make is longer than what came in: it says more and counts as full. Else prove '..UptoSaid'. A law counts once. -/
mutual
def uptoBulk {H : Type} : DataW H → Nat
  | .lit (.string bytes) => bytes.length + 1
  | .lit _ => 1
  | .nil => 1
  | .ptr d => uptoBulk d + 1
  | .slice elems spare => uptoBulkAll elems + uptoBulkAll spare + 1
  | .agg parts => uptoBulkAll parts + 1
  | .iface _ d => uptoBulk d + 1
  | .map entries => uptoBulkEntries entries + 1
  | .held _ => 1
def uptoBulkAll {H : Type} : List (DataW H) → Nat
  | [] => 0
  | d :: r => uptoBulk d + uptoBulkAll r
def uptoBulkEntries {H : Type} : List (Lit × DataW H) → Nat
  | [] => 0
  | x :: r => uptoBulkEntry x + uptoBulkEntries r
def uptoBulkEntry {H : Type} : Lit × DataW H → Nat
  | (.string bytes, d) => bytes.length + uptoBulk d + 1
  | (_, d) => uptoBulk d + 1
 end
def uptoSmall : (H : Type) → List (DataW H) → Bool := fun _ ds => decide (uptoBulkAll ds ≤ 1048576)
def OpenSpec.upto (s : _root_.Go.ChangeSpec) : _root_.Go.OpenSpec := { _root_.Go.OpenSpec.ofChange s with cond := some uptoSmall }

/-- 'backwaterlaw11.RpcOlder', WHERE WHAT IT READS IS OF BULK AT MOST 1048576: true; the input reads as it did. -/
def rpcOlderUptoRow : OpenClaim := { program := "ytpkpihcdbgckkaa", sum := "e36c4fdaf267d164ff65007d3c33bfcce9834d5327ec0a1942e8081036f3cc12", func := "backwater/backwaterlaw11.RpcOlder", spec := "rpcOlder", apart := false, narrowed := true }
def RpcOlderUptoSaid : Prop := rpcOlderUptoRow.holds Try.pinned (OpenSpec.upto rpcOlderSpec)

/-- 'backwaterlaw11.RpcWaits', WHERE WHAT IT READS IS OF BULK AT MOST 1048576: true; the input reads as it did. -/
def rpcWaitsUptoRow : OpenClaim := { program := "ytpkpihcdbgckkaa", sum := "e36c4fdaf267d164ff65007d3c33bfcce9834d5327ec0a1942e8081036f3cc12", func := "backwater/backwaterlaw11.RpcWaits", spec := "rpcWaits", apart := false, narrowed := true }
def RpcWaitsUptoSaid : Prop := rpcWaitsUptoRow.holds Try.pinned (OpenSpec.upto rpcWaitsSpec)

/-- 'backwaterlaw11.RpcOnce', WHERE WHAT IT READS IS OF BULK AT MOST 1048576: true; the input reads as it did. -/
def rpcOnceUptoRow : OpenClaim := { program := "ytpkpihcdbgckkaa", sum := "e36c4fdaf267d164ff65007d3c33bfcce9834d5327ec0a1942e8081036f3cc12", func := "backwater/backwaterlaw11.RpcOnce", spec := "rpcOnce", apart := false, narrowed := true }
def RpcOnceUptoSaid : Prop := rpcOnceUptoRow.holds Try.pinned (OpenSpec.upto rpcOnceSpec)

/-- 'backwaterlaw11.RpcAgain', WHERE WHAT IT READS IS OF BULK AT MOST 1048576: true; the input reads as it did. -/
def rpcAgainUptoRow : OpenClaim := { program := "ytpkpihcdbgckkaa", sum := "e36c4fdaf267d164ff65007d3c33bfcce9834d5327ec0a1942e8081036f3cc12", func := "backwater/backwaterlaw11.RpcAgain", spec := "rpcAgain", apart := false, narrowed := true }
def RpcAgainUptoSaid : Prop := rpcAgainUptoRow.holds Try.pinned (OpenSpec.upto rpcAgainSpec)

/-- 'backwaterlaw11.RpcPlays', WHERE WHAT IT READS IS OF BULK AT MOST 1048576: true; the input reads as it did. -/
def rpcPlaysUptoRow : OpenClaim := { program := "ytpkpihcdbgckkaa", sum := "e36c4fdaf267d164ff65007d3c33bfcce9834d5327ec0a1942e8081036f3cc12", func := "backwater/backwaterlaw11.RpcPlays", spec := "rpcPlays", apart := false, narrowed := true }
def RpcPlaysUptoSaid : Prop := rpcPlaysUptoRow.holds Try.pinned (OpenSpec.upto rpcPlaysSpec)

/-- 'backwaterlaw11.RpcForks', WHERE WHAT IT READS IS OF BULK AT MOST 1048576: true; the input reads as it did. -/
def rpcForksUptoRow : OpenClaim := { program := "ytpkpihcdbgckkaa", sum := "e36c4fdaf267d164ff65007d3c33bfcce9834d5327ec0a1942e8081036f3cc12", func := "backwater/backwaterlaw11.RpcForks", spec := "rpcForks", apart := false, narrowed := true }
def RpcForksUptoSaid : Prop := rpcForksUptoRow.holds Try.pinned (OpenSpec.upto rpcForksSpec)

/-- 'backwaterlaw11.RpcNone', WHERE WHAT IT READS IS OF BULK AT MOST 1048576: true; the input reads as it did. -/
def rpcNoneUptoRow : OpenClaim := { program := "ytpkpihcdbgckkaa", sum := "e36c4fdaf267d164ff65007d3c33bfcce9834d5327ec0a1942e8081036f3cc12", func := "backwater/backwaterlaw11.RpcNone", spec := "rpcNone", apart := false, narrowed := true }
def RpcNoneUptoSaid : Prop := rpcNoneUptoRow.holds Try.pinned (OpenSpec.upto rpcNoneSpec)

/-- 'backwaterlaw11.RpcLoads', WHERE WHAT IT READS IS OF BULK AT MOST 1048576: true; the input reads as it did. -/
def rpcLoadsUptoRow : OpenClaim := { program := "ytpkpihcdbgckkaa", sum := "e36c4fdaf267d164ff65007d3c33bfcce9834d5327ec0a1942e8081036f3cc12", func := "backwater/backwaterlaw11.RpcLoads", spec := "rpcLoads", unfollowed := true, recurses := true, apart := false, narrowed := true }
def RpcLoadsUptoSaid : Prop := rpcLoadsUptoRow.holds Try.pinned (OpenSpec.upto rpcLoadsSpec)

end Rows
end Go.Proofs.Ytpkpihcdbgckkaa
