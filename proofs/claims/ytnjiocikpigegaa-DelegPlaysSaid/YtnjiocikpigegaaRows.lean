/-
  No cell of these rows narrows 'for every input' (looked for: loops, veiled, ifaces, maps, wideKeys, modest, calm, conditions, laid).
  DERIVED. THE GIVEN ROWS OF THIS SEAT. 4 by the template 'for every input the law returns true; each argument reads behind the call as it read before'; 0 by the template 'total and deterministic' (their statements: YtnjiocikpigegaaTotals.lean).
  GIVEN WITH THE SEED: the statements are not yours to turn. If you find one false, say at which input.
  Laid BY PROGRAM, IN A SANDBOX (cutbox-rows.mjs): the forced cells as the released guide's own fill.sh prints them over the translation 2649bcd7eb5b73e1… (all of the seat's roots in one cut). By AI agents, Wed Nov 11 2026. No macro, syntax, notation, axiom, sorry.
-/
import Derived.Test.YtnjiocikpigegaaChecked
import GoSem.Claim
import GoSem.ClaimJoined
import GoSem.ClaimMapViews
import Derived.JoinedTies
import Derived.KernelRfl
namespace Go.Proofs.Ytnjiocikpigegaa
/- THE CELL 'sum', in the pinned program and in every row, IS THE sha256 OF THE DUMP (.gsa) THAT YtnjiocikpigegaaProg.lean LOADS. Nothing in Lean hashes anything: it is a label: what it is worth is what the hold of that sum in a sandbox is worth. -/
noncomputable def Try.pinned : Pinned := { name := "ytnjiocikpigegaa", sum := "2649bcd7eb5b73e1362998dcee043743130c879908d025bbbbf9438cdc2cd55d", checked := Try.checked }
namespace Rows
def none {H : Type} : Left H := { results := [], args := [] }

/-- 'tenancylaw21.DelegGrants': WHATEVER THE INPUT: true; the input reads as it did. -/
def delegGrantsSpec : ChangeSpec := { name := "delegGrants", fn := fun _ => fun
  | [d1, d2, d3, d4] => { results := [.lit (.bool true)], args := [d1, d2, d3, d4] }
  | _ => none }
def delegGrantsRow : OpenClaim := { program := "ytnjiocikpigegaa", sum := "2649bcd7eb5b73e1362998dcee043743130c879908d025bbbbf9438cdc2cd55d", func := "tenancy/tenancylaw21.DelegGrants", spec := "delegGrants", unfollowed := true, recurses := true, plainKeys := false, apart := false }
def DelegGrantsSaid : Prop := delegGrantsRow.holds Try.pinned (OpenSpec.ofChange delegGrantsSpec)

/-- ITS FALSE NEIGHBOUR: 'it returns false'. Refute it at one input. -/
def delegGrantsWrong : ChangeSpec := { name := "delegGrants", fn := fun _ => fun
  | [d1, d2, d3, d4] => { results := [.lit (.bool false)], args := [d1, d2, d3, d4] }
  | _ => none }
def DelegGrantsWrongFalsely : Prop := delegGrantsRow.holds Try.pinned (OpenSpec.ofChange delegGrantsWrong)

/-- 'tenancylaw21.DelegPlays': WHATEVER THE INPUT: true; the input reads as it did. -/
def delegPlaysSpec : ChangeSpec := { name := "delegPlays", fn := fun _ => fun
  | [d] => { results := [.lit (.bool true)], args := [d] }
  | _ => none }
def delegPlaysRow : OpenClaim := { program := "ytnjiocikpigegaa", sum := "2649bcd7eb5b73e1362998dcee043743130c879908d025bbbbf9438cdc2cd55d", func := "tenancy/tenancylaw21.DelegPlays", spec := "delegPlays", unfollowed := true, recurses := true, plainKeys := false, apart := false }
def DelegPlaysSaid : Prop := delegPlaysRow.holds Try.pinned (OpenSpec.ofChange delegPlaysSpec)

/-- ITS FALSE NEIGHBOUR: 'it returns false'. Refute it at one input. -/
def delegPlaysWrong : ChangeSpec := { name := "delegPlays", fn := fun _ => fun
  | [d] => { results := [.lit (.bool false)], args := [d] }
  | _ => none }
def DelegPlaysWrongFalsely : Prop := delegPlaysRow.holds Try.pinned (OpenSpec.ofChange delegPlaysWrong)

/-- 'tenancylaw21.DelegSingle': WHATEVER THE INPUT: true; the input reads as it did. -/
def delegSingleSpec : ChangeSpec := { name := "delegSingle", fn := fun _ => fun
  | [d] => { results := [.lit (.bool true)], args := [d] }
  | _ => none }
def delegSingleRow : OpenClaim := { program := "ytnjiocikpigegaa", sum := "2649bcd7eb5b73e1362998dcee043743130c879908d025bbbbf9438cdc2cd55d", func := "tenancy/tenancylaw21.DelegSingle", spec := "delegSingle", unfollowed := true, recurses := true, plainKeys := false, apart := false }
def DelegSingleSaid : Prop := delegSingleRow.holds Try.pinned (OpenSpec.ofChange delegSingleSpec)

/-- ITS FALSE NEIGHBOUR: 'it returns false'. Refute it at one input. -/
def delegSingleWrong : ChangeSpec := { name := "delegSingle", fn := fun _ => fun
  | [d] => { results := [.lit (.bool false)], args := [d] }
  | _ => none }
def DelegSingleWrongFalsely : Prop := delegSingleRow.holds Try.pinned (OpenSpec.ofChange delegSingleWrong)

/-- 'tenancylaw21.DelegNobody': WHATEVER THE INPUT: true; the input reads as it did. -/
def delegNobodySpec : ChangeSpec := { name := "delegNobody", fn := fun _ => fun
  | [d1, d2, d3] => { results := [.lit (.bool true)], args := [d1, d2, d3] }
  | _ => none }
def delegNobodyRow : OpenClaim := { program := "ytnjiocikpigegaa", sum := "2649bcd7eb5b73e1362998dcee043743130c879908d025bbbbf9438cdc2cd55d", func := "tenancy/tenancylaw21.DelegNobody", spec := "delegNobody", unfollowed := true, recurses := true, plainKeys := false, apart := false }
def DelegNobodySaid : Prop := delegNobodyRow.holds Try.pinned (OpenSpec.ofChange delegNobodySpec)

/-- ITS FALSE NEIGHBOUR: 'it returns false'. Refute it at one input. -/
def delegNobodyWrong : ChangeSpec := { name := "delegNobody", fn := fun _ => fun
  | [d1, d2, d3] => { results := [.lit (.bool false)], args := [d1, d2, d3] }
  | _ => none }
def DelegNobodyWrongFalsely : Prop := delegNobodyRow.holds Try.pinned (OpenSpec.ofChange delegNobodyWrong)

/- THE SECOND FORM. 'bulk': how many values and letters a reading holds, each counted each time it is reached (what is shared counts as often as it is met; a slice's spare places count too). A statement '..UptoSaid' is the law's where the arguments, and the package variables that the reading takes, are together of bulk at most 1048576: NARROWER than '..Said'. Prove '..Said' where nothing that the law and all that it calls make is longer than what came in: it says more and counts as full. Else prove '..UptoSaid'. A law counts once. -/
mutual
def uptoBulk {H : Type} : DataW H → Nat
  | .lit (.string bytes) => bytes.length + 1
  | .lit _ => 1
  | .nil => 1
  | .ptr d => uptoBulk d + 1
  | .slice elems spare => uptoBulkAll elems + uptoBulkAll spare + 1
  | .agg parts => uptoBulkAll parts + 1
  | .iface _ d => uptoBulk d + 1
  | .map entries => uptoBulkEntries entries + 1
  | .held _ => 1
def uptoBulkAll {H : Type} : List (DataW H) → Nat
  | [] => 0
  | d :: r => uptoBulk d + uptoBulkAll r
def uptoBulkEntries {H : Type} : List (Lit × DataW H) → Nat
  | [] => 0
  | x :: r => uptoBulkEntry x + uptoBulkEntries r
def uptoBulkEntry {H : Type} : Lit × DataW H → Nat
  | (.string bytes, d) => bytes.length + uptoBulk d + 1
  | (_, d) => uptoBulk d + 1
 end
def uptoSmall : (H : Type) → List (DataW H) → Bool := fun _ ds => decide (uptoBulkAll ds ≤ 1048576)
def OpenSpec.upto (s : _root_.Go.ChangeSpec) : _root_.Go.OpenSpec := { _root_.Go.OpenSpec.ofChange s with cond := some uptoSmall }

/-- 'tenancylaw21.DelegGrants', WHERE WHAT IT READS IS OF BULK AT MOST 1048576: true; the input reads as it did. -/
def delegGrantsUptoRow : OpenClaim := { program := "ytnjiocikpigegaa", sum := "2649bcd7eb5b73e1362998dcee043743130c879908d025bbbbf9438cdc2cd55d", func := "tenancy/tenancylaw21.DelegGrants", spec := "delegGrants", unfollowed := true, recurses := true, plainKeys := false, apart := false, narrowed := true }
def DelegGrantsUptoSaid : Prop := delegGrantsUptoRow.holds Try.pinned (OpenSpec.upto delegGrantsSpec)

/-- 'tenancylaw21.DelegPlays', WHERE WHAT IT READS IS OF BULK AT MOST 1048576: true; the input reads as it did. -/
def delegPlaysUptoRow : OpenClaim := { program := "ytnjiocikpigegaa", sum := "2649bcd7eb5b73e1362998dcee043743130c879908d025bbbbf9438cdc2cd55d", func := "tenancy/tenancylaw21.DelegPlays", spec := "delegPlays", unfollowed := true, recurses := true, plainKeys := false, apart := false, narrowed := true }
def DelegPlaysUptoSaid : Prop := delegPlaysUptoRow.holds Try.pinned (OpenSpec.upto delegPlaysSpec)

/-- 'tenancylaw21.DelegSingle', WHERE WHAT IT READS IS OF BULK AT MOST 1048576: true; the input reads as it did. -/
def delegSingleUptoRow : OpenClaim := { program := "ytnjiocikpigegaa", sum := "2649bcd7eb5b73e1362998dcee043743130c879908d025bbbbf9438cdc2cd55d", func := "tenancy/tenancylaw21.DelegSingle", spec := "delegSingle", unfollowed := true, recurses := true, plainKeys := false, apart := false, narrowed := true }
def DelegSingleUptoSaid : Prop := delegSingleUptoRow.holds Try.pinned (OpenSpec.upto delegSingleSpec)

/-- 'tenancylaw21.DelegNobody', WHERE WHAT IT READS IS OF BULK AT MOST 1048576: true; the input reads as it did. -/
def delegNobodyUptoRow : OpenClaim := { program := "ytnjiocikpigegaa", sum := "2649bcd7eb5b73e1362998dcee043743130c879908d025bbbbf9438cdc2cd55d", func := "tenancy/tenancylaw21.DelegNobody", spec := "delegNobody", unfollowed := true, recurses := true, plainKeys := false, apart := false, narrowed := true }
def DelegNobodyUptoSaid : Prop := delegNobodyUptoRow.holds Try.pinned (OpenSpec.upto delegNobodySpec)

end Rows
end Go.Proofs.Ytnjiocikpigegaa
