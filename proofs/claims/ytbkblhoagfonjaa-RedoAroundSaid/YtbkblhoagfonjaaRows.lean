/-
  No cell of these rows narrows 'for every input' (looked for: loops, veiled, ifaces, maps, wideKeys, modest, calm, conditions, laid).
  DERIVED. THE GIVEN ROWS OF THIS SEAT. 3 by the template 'for every input the law returns true; each argument reads behind the call as it read before'; 0 by the template 'total and deterministic' (their statements: YtbkblhoagfonjaaTotals.lean).
  GIVEN WITH THE SEED: the statements are not yours to turn. If you find one false, say at which input.
  Laid BY PROGRAM, IN A SANDBOX (cutbox-rows.mjs): the forced cells as the released guide's own fill.sh prints them over the translation 006d8898c4e5128c… (all of the seat's roots in one cut). By AI agents, Wed Nov 11 2026. No macro, syntax, notation, axiom, sorry.
-/
import Derived.Test.YtbkblhoagfonjaaChecked
import GoSem.Claim
import GoSem.ClaimJoined
import GoSem.ClaimMapViews
import Derived.JoinedTies
import Derived.KernelRfl
namespace Go.Proofs.Ytbkblhoagfonjaa
/- THE CELL 'sum', in the pinned program and in every row, IS THE sha256 OF THE DUMP (.gsa) THAT YtbkblhoagfonjaaProg.lean LOADS. Nothing in Lean hashes anything: it is a label: what it is worth is what the hold of that sum in a sandbox is worth. -/
noncomputable def Try.pinned : Pinned := { name := "ytbkblhoagfonjaa", sum := "006d8898c4e5128c7148e916b234b545499cc3326dca16b8850be7c3888afd82", checked := Try.checked }
namespace Rows
def none {H : Type} : Left H := { results := [], args := [] }

/-- 'tenancylaw06.RedoNeeds': WHATEVER THE INPUT: true; the input reads as it did. -/
def redoNeedsSpec : ChangeSpec := { name := "redoNeeds", fn := fun _ => fun
  | [d1, d2, d3] => { results := [.lit (.bool true)], args := [d1, d2, d3] }
  | _ => none }
def redoNeedsRow : OpenClaim := { program := "ytbkblhoagfonjaa", sum := "006d8898c4e5128c7148e916b234b545499cc3326dca16b8850be7c3888afd82", func := "tenancy/tenancylaw06.RedoNeeds", spec := "redoNeeds", apart := false }
def RedoNeedsSaid : Prop := redoNeedsRow.holds Try.pinned (OpenSpec.ofChange redoNeedsSpec)

/-- ITS FALSE NEIGHBOUR: 'it returns false'. Refute it at one input. -/
def redoNeedsWrong : ChangeSpec := { name := "redoNeeds", fn := fun _ => fun
  | [d1, d2, d3] => { results := [.lit (.bool false)], args := [d1, d2, d3] }
  | _ => none }
def RedoNeedsWrongFalsely : Prop := redoNeedsRow.holds Try.pinned (OpenSpec.ofChange redoNeedsWrong)

/-- 'tenancylaw06.RedoAround': WHATEVER THE INPUT: true; the input reads as it did. -/
def redoAroundSpec : ChangeSpec := { name := "redoAround", fn := fun _ => fun
  | [d1, d2] => { results := [.lit (.bool true)], args := [d1, d2] }
  | _ => none }
def redoAroundRow : OpenClaim := { program := "ytbkblhoagfonjaa", sum := "006d8898c4e5128c7148e916b234b545499cc3326dca16b8850be7c3888afd82", func := "tenancy/tenancylaw06.RedoAround", spec := "redoAround", unfollowed := true, recurses := true, apart := false }
def RedoAroundSaid : Prop := redoAroundRow.holds Try.pinned (OpenSpec.ofChange redoAroundSpec)

/-- ITS FALSE NEIGHBOUR: 'it returns false'. Refute it at one input. -/
def redoAroundWrong : ChangeSpec := { name := "redoAround", fn := fun _ => fun
  | [d1, d2] => { results := [.lit (.bool false)], args := [d1, d2] }
  | _ => none }
def RedoAroundWrongFalsely : Prop := redoAroundRow.holds Try.pinned (OpenSpec.ofChange redoAroundWrong)

/-- 'tenancylaw06.RedoNobody': WHATEVER THE INPUT: true; the input reads as it did. -/
def redoNobodySpec : ChangeSpec := { name := "redoNobody", fn := fun _ => fun
  | [d1, d2] => { results := [.lit (.bool true)], args := [d1, d2] }
  | _ => none }
def redoNobodyRow : OpenClaim := { program := "ytbkblhoagfonjaa", sum := "006d8898c4e5128c7148e916b234b545499cc3326dca16b8850be7c3888afd82", func := "tenancy/tenancylaw06.RedoNobody", spec := "redoNobody", unfollowed := true, recurses := true, apart := false }
def RedoNobodySaid : Prop := redoNobodyRow.holds Try.pinned (OpenSpec.ofChange redoNobodySpec)

/-- ITS FALSE NEIGHBOUR: 'it returns false'. Refute it at one input. -/
def redoNobodyWrong : ChangeSpec := { name := "redoNobody", fn := fun _ => fun
  | [d1, d2] => { results := [.lit (.bool false)], args := [d1, d2] }
  | _ => none }
def RedoNobodyWrongFalsely : Prop := redoNobodyRow.holds Try.pinned (OpenSpec.ofChange redoNobodyWrong)

/- THE SECOND FORM. 'bulk': how many values and letters a reading holds, each counted each time it is reached (what is shared counts as often as it is met; a slice's spare places count too). A statement '..UptoSaid' is the law's where the arguments, and the package variables that the reading takes, are together of bulk at most 1048576: NARROWER than '..Said'. Prove '..Said' where nothing that the law and all that it calls make is longer than what came in: it says more and counts as full. Else prove '..UptoSaid'. A law counts once. -/
mutual
def uptoBulk {H : Type} : DataW H → Nat
  | .lit (.string bytes) => bytes.length + 1
  | .lit _ => 1
  | .nil => 1
  | .ptr d => uptoBulk d + 1
  | .slice elems spare => uptoBulkAll elems + uptoBulkAll spare + 1
  | .agg parts => uptoBulkAll parts + 1
  | .iface _ d => uptoBulk d + 1
  | .map entries => uptoBulkEntries entries + 1
  | .held _ => 1
def uptoBulkAll {H : Type} : List (DataW H) → Nat
  | [] => 0
  | d :: r => uptoBulk d + uptoBulkAll r
def uptoBulkEntries {H : Type} : List (Lit × DataW H) → Nat
  | [] => 0
  | x :: r => uptoBulkEntry x + uptoBulkEntries r
def uptoBulkEntry {H : Type} : Lit × DataW H → Nat
  | (.string bytes, d) => bytes.length + uptoBulk d + 1
  | (_, d) => uptoBulk d + 1
 end
def uptoSmall : (H : Type) → List (DataW H) → Bool := fun _ ds => decide (uptoBulkAll ds ≤ 1048576)
def OpenSpec.upto (s : _root_.Go.ChangeSpec) : _root_.Go.OpenSpec := { _root_.Go.OpenSpec.ofChange s with cond := some uptoSmall }

/-- 'tenancylaw06.RedoNeeds', WHERE WHAT IT READS IS OF BULK AT MOST 1048576: true; the input reads as it did. -/
def redoNeedsUptoRow : OpenClaim := { program := "ytbkblhoagfonjaa", sum := "006d8898c4e5128c7148e916b234b545499cc3326dca16b8850be7c3888afd82", func := "tenancy/tenancylaw06.RedoNeeds", spec := "redoNeeds", apart := false, narrowed := true }
def RedoNeedsUptoSaid : Prop := redoNeedsUptoRow.holds Try.pinned (OpenSpec.upto redoNeedsSpec)

/-- 'tenancylaw06.RedoAround', WHERE WHAT IT READS IS OF BULK AT MOST 1048576: true; the input reads as it did. -/
def redoAroundUptoRow : OpenClaim := { program := "ytbkblhoagfonjaa", sum := "006d8898c4e5128c7148e916b234b545499cc3326dca16b8850be7c3888afd82", func := "tenancy/tenancylaw06.RedoAround", spec := "redoAround", unfollowed := true, recurses := true, apart := false, narrowed := true }
def RedoAroundUptoSaid : Prop := redoAroundUptoRow.holds Try.pinned (OpenSpec.upto redoAroundSpec)

/-- 'tenancylaw06.RedoNobody', WHERE WHAT IT READS IS OF BULK AT MOST 1048576: true; the input reads as it did. -/
def redoNobodyUptoRow : OpenClaim := { program := "ytbkblhoagfonjaa", sum := "006d8898c4e5128c7148e916b234b545499cc3326dca16b8850be7c3888afd82", func := "tenancy/tenancylaw06.RedoNobody", spec := "redoNobody", unfollowed := true, recurses := true, apart := false, narrowed := true }
def RedoNobodyUptoSaid : Prop := redoNobodyUptoRow.holds Try.pinned (OpenSpec.upto redoNobodySpec)

end Rows
end Go.Proofs.Ytbkblhoagfonjaa
