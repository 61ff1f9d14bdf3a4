/-
  No cell of these rows narrows 'for every input' (looked for: loops, veiled, ifaces, maps, wideKeys, modest, calm, conditions, laid).
  DERIVED. THE GIVEN ROWS OF THIS SEAT. 3 by the template 'for every input the law returns true; each argument reads behind the call as it read before'; 0 by the template 'total and deterministic' (their statements: YtepahgbgijmipaaTotals.lean).
  GIVEN WITH THE SEED: the statements are not yours to turn. If you find one false, say at which input.
  Laid BY PROGRAM, IN A SANDBOX (cutbox-rows.mjs): the forced cells as the released guide's own fill.sh prints them over the translation 717b1975c49a030f… (all of the seat's roots in one cut). By AI agents, Wed Nov 11 2026. No macro, syntax, notation, axiom, sorry.
-/
import Derived.Test.YtepahgbgijmipaaChecked
import GoSem.Claim
import GoSem.ClaimJoined
import GoSem.ClaimMapViews
import Derived.JoinedTies
import Derived.KernelRfl
namespace Go.Proofs.Ytepahgbgijmipaa
/- THE CELL 'sum', in the pinned program and in every row, IS THE sha256 OF THE DUMP (.gsa) THAT YtepahgbgijmipaaProg.lean LOADS. Nothing in Lean hashes anything: it is a label: what it is worth is what the hold of that sum in a sandbox is worth. -/
noncomputable def Try.pinned : Pinned := { name := "ytepahgbgijmipaa", sum := "717b1975c49a030fc07e0967374e0da0132e110cb5fe597fa4b84bb75537a089", checked := Try.checked }
namespace Rows
def none {H : Type} : Left H := { results := [], args := [] }

/-- 'laws.FnJoined': WHATEVER THE INPUT: true; the input reads as it did. -/
def fnJoinedSpec : ChangeSpec := { name := "fnJoined", fn := fun _ => fun
  | [d] => { results := [.lit (.bool true)], args := [d] }
  | _ => none }
def fnJoinedRow : OpenClaim := { program := "ytepahgbgijmipaa", sum := "717b1975c49a030fc07e0967374e0da0132e110cb5fe597fa4b84bb75537a089", func := "loop.example/g00076/laws.FnJoined", spec := "fnJoined", unfollowed := true, recurses := true, apart := false }
def FnJoinedSaid : Prop := fnJoinedRow.holds Try.pinned (OpenSpec.ofChange fnJoinedSpec)

/-- ITS FALSE NEIGHBOUR: 'it returns false'. Refute it at one input. -/
def fnJoinedWrong : ChangeSpec := { name := "fnJoined", fn := fun _ => fun
  | [d] => { results := [.lit (.bool false)], args := [d] }
  | _ => none }
def FnJoinedWrongFalsely : Prop := fnJoinedRow.holds Try.pinned (OpenSpec.ofChange fnJoinedWrong)

/-- 'laws.FnPoke': WHATEVER THE INPUT: true; the input reads as it did. -/
def fnPokeSpec : ChangeSpec := { name := "fnPoke", fn := fun _ => fun
  | [d] => { results := [.lit (.bool true)], args := [d] }
  | _ => none }
def fnPokeRow : OpenClaim := { program := "ytepahgbgijmipaa", sum := "717b1975c49a030fc07e0967374e0da0132e110cb5fe597fa4b84bb75537a089", func := "loop.example/g00076/laws.FnPoke", spec := "fnPoke", unfollowed := true, recurses := true, apart := false }
def FnPokeSaid : Prop := fnPokeRow.holds Try.pinned (OpenSpec.ofChange fnPokeSpec)

/-- ITS FALSE NEIGHBOUR: 'it returns false'. Refute it at one input. -/
def fnPokeWrong : ChangeSpec := { name := "fnPoke", fn := fun _ => fun
  | [d] => { results := [.lit (.bool false)], args := [d] }
  | _ => none }
def FnPokeWrongFalsely : Prop := fnPokeRow.holds Try.pinned (OpenSpec.ofChange fnPokeWrong)

/-- 'laws.FnLatency': WHATEVER THE INPUT: true; the input reads as it did. -/
def fnLatencySpec : ChangeSpec := { name := "fnLatency", fn := fun _ => fun
  | [d] => { results := [.lit (.bool true)], args := [d] }
  | _ => none }
def fnLatencyRow : OpenClaim := { program := "ytepahgbgijmipaa", sum := "717b1975c49a030fc07e0967374e0da0132e110cb5fe597fa4b84bb75537a089", func := "loop.example/g00076/laws.FnLatency", spec := "fnLatency", unfollowed := true, recurses := true, apart := false }
def FnLatencySaid : Prop := fnLatencyRow.holds Try.pinned (OpenSpec.ofChange fnLatencySpec)

/-- ITS FALSE NEIGHBOUR: 'it returns false'. Refute it at one input. -/
def fnLatencyWrong : ChangeSpec := { name := "fnLatency", fn := fun _ => fun
  | [d] => { results := [.lit (.bool false)], args := [d] }
  | _ => none }
def FnLatencyWrongFalsely : Prop := fnLatencyRow.holds Try.pinned (OpenSpec.ofChange fnLatencyWrong)

/- THE SECOND FORM. 'bulk': how many values and letters a reading holds, each counted each time it is reached (what is shared counts as often as it is met; a slice's spare places count too). A statement '..UptoSaid' is the law's where the arguments, and the package variables that the reading takes, are together of bulk at most 1048576: NARROWER than '..Said'. Prove '..Said' where nothing that the law and all that it calls make is longer than what came in: it says more and counts as full. Else prove '..UptoSaid'. A law counts once. -/
mutual
def uptoBulk {H : Type} : DataW H → Nat
  | .lit (.string bytes) => bytes.length + 1
  | .lit _ => 1
  | .nil => 1
  | .ptr d => uptoBulk d + 1
  | .slice elems spare => uptoBulkAll elems + uptoBulkAll spare + 1
  | .agg parts => uptoBulkAll parts + 1
  | .iface _ d => uptoBulk d + 1
  | .map entries => uptoBulkEntries entries + 1
  | .held _ => 1
def uptoBulkAll {H : Type} : List (DataW H) → Nat
  | [] => 0
  | d :: r => uptoBulk d + uptoBulkAll r
def uptoBulkEntries {H : Type} : List (Lit × DataW H) → Nat
  | [] => 0
  | x :: r => uptoBulkEntry x + uptoBulkEntries r
def uptoBulkEntry {H : Type} : Lit × DataW H → Nat
  | (.string bytes, d) => bytes.length + uptoBulk d + 1
  | (_, d) => uptoBulk d + 1
 end
def uptoSmall : (H : Type) → List (DataW H) → Bool := fun _ ds => decide (uptoBulkAll ds ≤ 1048576)
def OpenSpec.upto (s : _root_.Go.ChangeSpec) : _root_.Go.OpenSpec := { _root_.Go.OpenSpec.ofChange s with cond := some uptoSmall }

/-- 'laws.FnJoined', WHERE WHAT IT READS IS OF BULK AT MOST 1048576: true; the input reads as it did. -/
def fnJoinedUptoRow : OpenClaim := { program := "ytepahgbgijmipaa", sum := "717b1975c49a030fc07e0967374e0da0132e110cb5fe597fa4b84bb75537a089", func := "loop.example/g00076/laws.FnJoined", spec := "fnJoined", unfollowed := true, recurses := true, apart := false, narrowed := true }
def FnJoinedUptoSaid : Prop := fnJoinedUptoRow.holds Try.pinned (OpenSpec.upto fnJoinedSpec)

/-- 'laws.FnPoke', WHERE WHAT IT READS IS OF BULK AT MOST 1048576: true; the input reads as it did. -/
def fnPokeUptoRow : OpenClaim := { program := "ytepahgbgijmipaa", sum := "717b1975c49a030fc07e0967374e0da0132e110cb5fe597fa4b84bb75537a089", func := "loop.example/g00076/laws.FnPoke", spec := "fnPoke", unfollowed := true, recurses := true, apart := false, narrowed := true }
def FnPokeUptoSaid : Prop := fnPokeUptoRow.holds Try.pinned (OpenSpec.upto fnPokeSpec)

/-- 'laws.FnLatency', WHERE WHAT IT READS IS OF BULK AT MOST 1048576: true; the input reads as it did. -/
def fnLatencyUptoRow : OpenClaim := { program := "ytepahgbgijmipaa", sum := "717b1975c49a030fc07e0967374e0da0132e110cb5fe597fa4b84bb75537a089", func := "loop.example/g00076/laws.FnLatency", spec := "fnLatency", unfollowed := true, recurses := true, apart := false, narrowed := true }
def FnLatencyUptoSaid : Prop := fnLatencyUptoRow.holds Try.pinned (OpenSpec.upto fnLatencySpec)

end Rows
end Go.Proofs.Ytepahgbgijmipaa
