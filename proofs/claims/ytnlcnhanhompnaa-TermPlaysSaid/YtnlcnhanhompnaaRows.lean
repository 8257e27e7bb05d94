/-
  No cell of these rows narrows 'for every input' (looked for: loops, veiled, ifaces, maps, wideKeys, modest, calm, conditions, laid).
  DERIVED. THE GIVEN ROWS OF THIS SEAT. 3 by the template 'for every input the law returns true; each argument reads behind the call as it read before'; 0 by the template 'total and deterministic' (their statements: YtnlcnhanhompnaaTotals.lean).
  GIVEN WITH THE SEED: the statements are not yours to turn. If you find one false, say at which input.
  Laid BY PROGRAM, IN A SANDBOX (cutbox-rows.mjs): the forced cells as the released guide's own fill.sh prints them over the translation 712548317b293946… (all of the seat's roots in one cut). By AI agents, Wed Nov 11 2026. No macro, syntax, notation, axiom, sorry.
-/
import Derived.Test.YtnlcnhanhompnaaChecked
import GoSem.Claim
import GoSem.ClaimJoined
import GoSem.ClaimMapViews
import Derived.JoinedTies
import Derived.KernelRfl
namespace Go.Proofs.Ytnlcnhanhompnaa
/- THE CELL 'sum', in the pinned program and in every row, IS THE sha256 OF THE DUMP (.gsa) THAT YtnlcnhanhompnaaProg.lean LOADS. Nothing in Lean hashes anything: it is a label: what it is worth is what the hold of that sum in a sandbox is worth. -/
noncomputable def Try.pinned : Pinned := { name := "ytnlcnhanhompnaa", sum := "712548317b293946d614c5d89d59ccc99900f5ddb2d05c65649f81b8a8b72284", checked := Try.checked }
namespace Rows
def none {H : Type} : Left H := { results := [], args := [] }

/-- 'tenancylaw20.TermSafe': WHATEVER THE INPUT: true; the input reads as it did. -/
def termSafeSpec : ChangeSpec := { name := "termSafe", fn := fun _ => fun
  | [d1, d2, d3] => { results := [.lit (.bool true)], args := [d1, d2, d3] }
  | _ => none }
def termSafeRow : OpenClaim := { program := "ytnlcnhanhompnaa", sum := "712548317b293946d614c5d89d59ccc99900f5ddb2d05c65649f81b8a8b72284", func := "tenancy/tenancylaw20.TermSafe", spec := "termSafe", unfollowed := true, recurses := true, apart := false }
def TermSafeSaid : Prop := termSafeRow.holds Try.pinned (OpenSpec.ofChange termSafeSpec)

/-- ITS FALSE NEIGHBOUR: 'it returns false'. Refute it at one input. -/
def termSafeWrong : ChangeSpec := { name := "termSafe", fn := fun _ => fun
  | [d1, d2, d3] => { results := [.lit (.bool false)], args := [d1, d2, d3] }
  | _ => none }
def TermSafeWrongFalsely : Prop := termSafeRow.holds Try.pinned (OpenSpec.ofChange termSafeWrong)

/-- 'tenancylaw20.TermPlays': WHATEVER THE INPUT: true; the input reads as it did. -/
def termPlaysSpec : ChangeSpec := { name := "termPlays", fn := fun _ => fun
  | [d1, d2, d3] => { results := [.lit (.bool true)], args := [d1, d2, d3] }
  | _ => none }
def termPlaysRow : OpenClaim := { program := "ytnlcnhanhompnaa", sum := "712548317b293946d614c5d89d59ccc99900f5ddb2d05c65649f81b8a8b72284", func := "tenancy/tenancylaw20.TermPlays", spec := "termPlays", unfollowed := true, recurses := true, apart := false }
def TermPlaysSaid : Prop := termPlaysRow.holds Try.pinned (OpenSpec.ofChange termPlaysSpec)

/-- ITS FALSE NEIGHBOUR: 'it returns false'. Refute it at one input. -/
def termPlaysWrong : ChangeSpec := { name := "termPlays", fn := fun _ => fun
  | [d1, d2, d3] => { results := [.lit (.bool false)], args := [d1, d2, d3] }
  | _ => none }
def TermPlaysWrongFalsely : Prop := termPlaysRow.holds Try.pinned (OpenSpec.ofChange termPlaysWrong)

/-- 'tenancylaw20.TermNobody': WHATEVER THE INPUT: true; the input reads as it did. -/
def termNobodySpec : ChangeSpec := { name := "termNobody", fn := fun _ => fun
  | [d1, d2] => { results := [.lit (.bool true)], args := [d1, d2] }
  | _ => none }
def termNobodyRow : OpenClaim := { program := "ytnlcnhanhompnaa", sum := "712548317b293946d614c5d89d59ccc99900f5ddb2d05c65649f81b8a8b72284", func := "tenancy/tenancylaw20.TermNobody", spec := "termNobody", unfollowed := true, recurses := true, apart := false }
def TermNobodySaid : Prop := termNobodyRow.holds Try.pinned (OpenSpec.ofChange termNobodySpec)

/-- ITS FALSE NEIGHBOUR: 'it returns false'. Refute it at one input. -/
def termNobodyWrong : ChangeSpec := { name := "termNobody", fn := fun _ => fun
  | [d1, d2] => { results := [.lit (.bool false)], args := [d1, d2] }
  | _ => none }
def TermNobodyWrongFalsely : Prop := termNobodyRow.holds Try.pinned (OpenSpec.ofChange termNobodyWrong)

/- THE SECOND FORM. 'bulk': how many values and letters a reading holds, each counted each time it is reached (what is shared counts as often as it is met; a slice's spare places count too). A statement '..UptoSaid' is the law's where the arguments, and the package variables that the reading takes, are together of bulk at most 1048576: NARROWER than '..Said'. Prove '..Said' where nothing that the law and all that it calls make is longer than what came in: it says more and counts as full. Else prove '..UptoSaid'. A law counts once. -/
mutual
def uptoBulk {H : Type} : DataW H → Nat
  | .lit (.string bytes) => bytes.length + 1
  | .lit _ => 1
  | .nil => 1
  | .ptr d => uptoBulk d + 1
  | .slice elems spare => uptoBulkAll elems + uptoBulkAll spare + 1
  | .agg parts => uptoBulkAll parts + 1
  | .iface _ d => uptoBulk d + 1
  | .map entries => uptoBulkEntries entries + 1
  | .held _ => 1
def uptoBulkAll {H : Type} : List (DataW H) → Nat
  | [] => 0
  | d :: r => uptoBulk d + uptoBulkAll r
def uptoBulkEntries {H : Type} : List (Lit × DataW H) → Nat
  | [] => 0
  | x :: r => uptoBulkEntry x + uptoBulkEntries r
def uptoBulkEntry {H : Type} : Lit × DataW H → Nat
  | (.string bytes, d) => bytes.length + uptoBulk d + 1
  | (_, d) => uptoBulk d + 1
 end
def uptoSmall : (H : Type) → List (DataW H) → Bool := fun _ ds => decide (uptoBulkAll ds ≤ 1048576)
def OpenSpec.upto (s : _root_.Go.ChangeSpec) : _root_.Go.OpenSpec := { _root_.Go.OpenSpec.ofChange s with cond := some uptoSmall }

/-- 'tenancylaw20.TermSafe', WHERE WHAT IT READS IS OF BULK AT MOST 1048576: true; the input reads as it did. -/
def termSafeUptoRow : OpenClaim := { program := "ytnlcnhanhompnaa", sum := "712548317b293946d614c5d89d59ccc99900f5ddb2d05c65649f81b8a8b72284", func := "tenancy/tenancylaw20.TermSafe", spec := "termSafe", unfollowed := true, recurses := true, apart := false, narrowed := true }
def TermSafeUptoSaid : Prop := termSafeUptoRow.holds Try.pinned (OpenSpec.upto termSafeSpec)

/-- 'tenancylaw20.TermPlays', WHERE WHAT IT READS IS OF BULK AT MOST 1048576: true; the input reads as it did. -/
def termPlaysUptoRow : OpenClaim := { program := "ytnlcnhanhompnaa", sum := "712548317b293946d614c5d89d59ccc99900f5ddb2d05c65649f81b8a8b72284", func := "tenancy/tenancylaw20.TermPlays", spec := "termPlays", unfollowed := true, recurses := true, apart := false, narrowed := true }
def TermPlaysUptoSaid : Prop := termPlaysUptoRow.holds Try.pinned (OpenSpec.upto termPlaysSpec)

/-- 'tenancylaw20.TermNobody', WHERE WHAT IT READS IS OF BULK AT MOST 1048576: true; the input reads as it did. -/
def termNobodyUptoRow : OpenClaim := { program := "ytnlcnhanhompnaa", sum := "712548317b293946d614c5d89d59ccc99900f5ddb2d05c65649f81b8a8b72284", func := "tenancy/tenancylaw20.TermNobody", spec := "termNobody", unfollowed := true, recurses := true, apart := false, narrowed := true }
def TermNobodyUptoSaid : Prop := termNobodyUptoRow.holds Try.pinned (OpenSpec.upto termNobodySpec)

end Rows
end Go.Proofs.Ytnlcnhanhompnaa
