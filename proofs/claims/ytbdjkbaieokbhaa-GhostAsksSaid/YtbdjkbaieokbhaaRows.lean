/-
  No cell of these rows narrows 'for every input' (looked for: loops, veiled, ifaces, maps, wideKeys, modest, calm, conditions, laid).
  DERIVED. THE GIVEN ROWS OF THIS SEAT. 3 by the template 'for every input the law returns true; each argument reads behind the call as it read before'; 0 by the template 'total and deterministic' (their statements: YtbdjkbaieokbhaaTotals.lean).
  GIVEN WITH THE SEED: the statements are not yours to turn. If you find one false, say at which input.
  Laid BY PROGRAM, IN A SANDBOX (cutbox-rows.mjs): the forced cells as the released guide's own fill.sh prints them over the translation 19f3af838ed64936… (all of the seat's roots in one cut). By AI agents, Wed Nov 11 2026. No macro, syntax, notation, axiom, sorry.
-/
import Derived.Test.YtbdjkbaieokbhaaChecked
import GoSem.Claim
import GoSem.ClaimJoined
import GoSem.ClaimMapViews
import Derived.JoinedTies
import Derived.KernelRfl
namespace Go.Proofs.Ytbdjkbaieokbhaa
/- THE CELL 'sum', in the pinned program and in every row, IS THE sha256 OF THE DUMP (.gsa) THAT YtbdjkbaieokbhaaProg.lean LOADS. Nothing in Lean hashes anything: it is a label: what it is worth is what the hold of that sum in a sandbox is worth. -/
noncomputable def Try.pinned : Pinned := { name := "ytbdjkbaieokbhaa", sum := "19f3af838ed649369bcdd50a6ed3b4fca8ba632dfc1dc4eca203db4d821b7e9b", checked := Try.checked }
namespace Rows
def none {H : Type} : Left H := { results := [], args := [] }

/-- 'tenancylaw32.GhostFates': WHATEVER THE INPUT: true; the input reads as it did. -/
def ghostFatesSpec : ChangeSpec := { name := "ghostFates", fn := fun _ => fun
  | [d] => { results := [.lit (.bool true)], args := [d] }
  | _ => none }
def ghostFatesRow : OpenClaim := { program := "ytbdjkbaieokbhaa", sum := "19f3af838ed649369bcdd50a6ed3b4fca8ba632dfc1dc4eca203db4d821b7e9b", func := "tenancy/tenancylaw32.GhostFates", spec := "ghostFates", plainKeys := false, apart := false }
def GhostFatesSaid : Prop := ghostFatesRow.holds Try.pinned (OpenSpec.ofChange ghostFatesSpec)

/-- ITS FALSE NEIGHBOUR: 'it returns false'. Refute it at one input. -/
def ghostFatesWrong : ChangeSpec := { name := "ghostFates", fn := fun _ => fun
  | [d] => { results := [.lit (.bool false)], args := [d] }
  | _ => none }
def GhostFatesWrongFalsely : Prop := ghostFatesRow.holds Try.pinned (OpenSpec.ofChange ghostFatesWrong)

/-- 'tenancylaw32.GhostGrows': WHATEVER THE INPUT: true; the input reads as it did. -/
def ghostGrowsSpec : ChangeSpec := { name := "ghostGrows", fn := fun _ => fun
  | [d1, d2] => { results := [.lit (.bool true)], args := [d1, d2] }
  | _ => none }
def ghostGrowsRow : OpenClaim := { program := "ytbdjkbaieokbhaa", sum := "19f3af838ed649369bcdd50a6ed3b4fca8ba632dfc1dc4eca203db4d821b7e9b", func := "tenancy/tenancylaw32.GhostGrows", spec := "ghostGrows", plainKeys := false, apart := false }
def GhostGrowsSaid : Prop := ghostGrowsRow.holds Try.pinned (OpenSpec.ofChange ghostGrowsSpec)

/-- ITS FALSE NEIGHBOUR: 'it returns false'. Refute it at one input. -/
def ghostGrowsWrong : ChangeSpec := { name := "ghostGrows", fn := fun _ => fun
  | [d1, d2] => { results := [.lit (.bool false)], args := [d1, d2] }
  | _ => none }
def GhostGrowsWrongFalsely : Prop := ghostGrowsRow.holds Try.pinned (OpenSpec.ofChange ghostGrowsWrong)

/-- 'tenancylaw32.GhostAsks': WHATEVER THE INPUT: true; the input reads as it did. -/
def ghostAsksSpec : ChangeSpec := { name := "ghostAsks", fn := fun _ => fun
  | [d1, d2, d3] => { results := [.lit (.bool true)], args := [d1, d2, d3] }
  | _ => none }
def ghostAsksRow : OpenClaim := { program := "ytbdjkbaieokbhaa", sum := "19f3af838ed649369bcdd50a6ed3b4fca8ba632dfc1dc4eca203db4d821b7e9b", func := "tenancy/tenancylaw32.GhostAsks", spec := "ghostAsks", recurses := true, plainKeys := false, apart := false }
def GhostAsksSaid : Prop := ghostAsksRow.holds Try.pinned (OpenSpec.ofChange ghostAsksSpec)

/-- ITS FALSE NEIGHBOUR: 'it returns false'. Refute it at one input. -/
def ghostAsksWrong : ChangeSpec := { name := "ghostAsks", fn := fun _ => fun
  | [d1, d2, d3] => { results := [.lit (.bool false)], args := [d1, d2, d3] }
  | _ => none }
def GhostAsksWrongFalsely : Prop := ghostAsksRow.holds Try.pinned (OpenSpec.ofChange ghostAsksWrong)

/- THE SECOND FORM. 'bulk': how many values and letters a reading holds, each counted each time it is reached (what is shared counts as often as it is met; a slice's spare places count too). A statement '..UptoSaid' is the law's where the arguments, and the package variables that the reading takes, are together of bulk at most 1048576: NARROWER than '..Said'. Prove '..Said' where nothing that the law and all that it calls make is longer than what came in: it says more and counts as full. Else prove '..UptoSaid'. A law counts once. -/
mutual
def uptoBulk {H : Type} : DataW H → Nat
  | .lit (.string bytes) => bytes.length + 1
  | .lit _ => 1
  | .nil => 1
  | .ptr d => uptoBulk d + 1
  | .slice elems spare => uptoBulkAll elems + uptoBulkAll spare + 1
  | .agg parts => uptoBulkAll parts + 1
  | .iface _ d => uptoBulk d + 1
  | .map entries => uptoBulkEntries entries + 1
  | .held _ => 1
def uptoBulkAll {H : Type} : List (DataW H) → Nat
  | [] => 0
  | d :: r => uptoBulk d + uptoBulkAll r
def uptoBulkEntries {H : Type} : List (Lit × DataW H) → Nat
  | [] => 0
  | x :: r => uptoBulkEntry x + uptoBulkEntries r
def uptoBulkEntry {H : Type} : Lit × DataW H → Nat
  | (.string bytes, d) => bytes.length + uptoBulk d + 1
  | (_, d) => uptoBulk d + 1
 end
def uptoSmall : (H : Type) → List (DataW H) → Bool := fun _ ds => decide (uptoBulkAll ds ≤ 1048576)
def OpenSpec.upto (s : _root_.Go.ChangeSpec) : _root_.Go.OpenSpec := { _root_.Go.OpenSpec.ofChange s with cond := some uptoSmall }

/-- 'tenancylaw32.GhostFates', WHERE WHAT IT READS IS OF BULK AT MOST 1048576: true; the input reads as it did. -/
def ghostFatesUptoRow : OpenClaim := { program := "ytbdjkbaieokbhaa", sum := "19f3af838ed649369bcdd50a6ed3b4fca8ba632dfc1dc4eca203db4d821b7e9b", func := "tenancy/tenancylaw32.GhostFates", spec := "ghostFates", plainKeys := false, apart := false, narrowed := true }
def GhostFatesUptoSaid : Prop := ghostFatesUptoRow.holds Try.pinned (OpenSpec.upto ghostFatesSpec)

/-- 'tenancylaw32.GhostGrows', WHERE WHAT IT READS IS OF BULK AT MOST 1048576: true; the input reads as it did. -/
def ghostGrowsUptoRow : OpenClaim := { program := "ytbdjkbaieokbhaa", sum := "19f3af838ed649369bcdd50a6ed3b4fca8ba632dfc1dc4eca203db4d821b7e9b", func := "tenancy/tenancylaw32.GhostGrows", spec := "ghostGrows", plainKeys := false, apart := false, narrowed := true }
def GhostGrowsUptoSaid : Prop := ghostGrowsUptoRow.holds Try.pinned (OpenSpec.upto ghostGrowsSpec)

/-- 'tenancylaw32.GhostAsks', WHERE WHAT IT READS IS OF BULK AT MOST 1048576: true; the input reads as it did. -/
def ghostAsksUptoRow : OpenClaim := { program := "ytbdjkbaieokbhaa", sum := "19f3af838ed649369bcdd50a6ed3b4fca8ba632dfc1dc4eca203db4d821b7e9b", func := "tenancy/tenancylaw32.GhostAsks", spec := "ghostAsks", recurses := true, plainKeys := false, apart := false, narrowed := true }
def GhostAsksUptoSaid : Prop := ghostAsksUptoRow.holds Try.pinned (OpenSpec.upto ghostAsksSpec)

end Rows
end Go.Proofs.Ytbdjkbaieokbhaa
