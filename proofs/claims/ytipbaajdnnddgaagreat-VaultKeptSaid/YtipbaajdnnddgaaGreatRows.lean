/-
  No cell of these rows narrows 'for every input' (looked for: loops, veiled, ifaces, maps, wideKeys, modest, calm, conditions, laid).
  DERIVED. THE GIVEN ROWS OF THIS SEAT. 3 by the template 'for every input the law returns true; each argument reads behind the call as it read before'; 0 by the template 'total and deterministic' (their statements: YtipbaajdnnddgaaGreatTotals.lean).
  GIVEN WITH THE SEED: the statements are not yours to turn. If you find one false, say at which input.
  Laid BY PROGRAM, IN A SANDBOX (cutbox-rows.mjs): the forced cells as the released guide's own fill.sh prints them over the translation b81e43a97f061e14… (all of the seat's roots in one cut). By AI agents, Wed Nov 11 2026. No macro, syntax, notation, axiom, sorry.
-/
import Derived.Test.YtipbaajdnnddgaaGreatChecked
import GoSem.Claim
import GoSem.ClaimJoined
import GoSem.ClaimMapViews
import Derived.JoinedTies
import Derived.KernelRfl
namespace Go.Proofs.YtipbaajdnnddgaaGreat
/- THE CELL 'sum', in the pinned program and in every row, IS THE sha256 OF THE DUMP (.gsa) THAT YtipbaajdnnddgaaGreatProg.lean LOADS. Nothing in Lean hashes anything: it is a label: what it is worth is what the hold of that sum in a sandbox is worth. -/
noncomputable def Tryz.pinned : Pinned := { name := "ytipbaajdnnddgaagreat", sum := "b81e43a97f061e14f6f1831a47ce5c7d6b24497097c2cd87e59d683118b7ef31", checked := Tryz.checked }
namespace Rows
def none {H : Type} : Left H := { results := [], args := [] }

/-- 'tenancylaw25.VaultRises': WHATEVER THE INPUT: true; the input reads as it did. -/
def vaultRisesSpec : ChangeSpec := { name := "vaultRises", fn := fun _ => fun
  | [d] => { results := [.lit (.bool true)], args := [d] }
  | _ => none }
def vaultRisesRow : OpenClaim := { program := "ytipbaajdnnddgaagreat", sum := "b81e43a97f061e14f6f1831a47ce5c7d6b24497097c2cd87e59d683118b7ef31", func := "tenancy/tenancylaw25.VaultRises", spec := "vaultRises", unfollowed := true, recurses := true, apart := false }
def VaultRisesSaid : Prop := vaultRisesRow.holds Tryz.pinned (OpenSpec.ofChange vaultRisesSpec)

/-- ITS FALSE NEIGHBOUR: 'it returns false'. Refute it at one input. -/
def vaultRisesWrong : ChangeSpec := { name := "vaultRises", fn := fun _ => fun
  | [d] => { results := [.lit (.bool false)], args := [d] }
  | _ => none }
def VaultRisesWrongFalsely : Prop := vaultRisesRow.holds Tryz.pinned (OpenSpec.ofChange vaultRisesWrong)

/-- 'tenancylaw25.VaultNobody': WHATEVER THE INPUT: true; the input reads as it did. -/
def vaultNobodySpec : ChangeSpec := { name := "vaultNobody", fn := fun _ => fun
  | [d1, d2] => { results := [.lit (.bool true)], args := [d1, d2] }
  | _ => none }
def vaultNobodyRow : OpenClaim := { program := "ytipbaajdnnddgaagreat", sum := "b81e43a97f061e14f6f1831a47ce5c7d6b24497097c2cd87e59d683118b7ef31", func := "tenancy/tenancylaw25.VaultNobody", spec := "vaultNobody", unfollowed := true, recurses := true, apart := false }
def VaultNobodySaid : Prop := vaultNobodyRow.holds Tryz.pinned (OpenSpec.ofChange vaultNobodySpec)

/-- ITS FALSE NEIGHBOUR: 'it returns false'. Refute it at one input. -/
def vaultNobodyWrong : ChangeSpec := { name := "vaultNobody", fn := fun _ => fun
  | [d1, d2] => { results := [.lit (.bool false)], args := [d1, d2] }
  | _ => none }
def VaultNobodyWrongFalsely : Prop := vaultNobodyRow.holds Tryz.pinned (OpenSpec.ofChange vaultNobodyWrong)

/-- 'tenancylaw25.VaultKept': WHATEVER THE INPUT: true; the input reads as it did. -/
def vaultKeptSpec : ChangeSpec := { name := "vaultKept", fn := fun _ => fun
  | [d] => { results := [.lit (.bool true)], args := [d] }
  | _ => none }
def vaultKeptRow : OpenClaim := { program := "ytipbaajdnnddgaagreat", sum := "b81e43a97f061e14f6f1831a47ce5c7d6b24497097c2cd87e59d683118b7ef31", func := "tenancy/tenancylaw25.VaultKept", spec := "vaultKept", unfollowed := true, recurses := true, apart := false }
def VaultKeptSaid : Prop := vaultKeptRow.holds Tryz.pinned (OpenSpec.ofChange vaultKeptSpec)

/-- ITS FALSE NEIGHBOUR: 'it returns false'. Refute it at one input. -/
def vaultKeptWrong : ChangeSpec := { name := "vaultKept", fn := fun _ => fun
  | [d] => { results := [.lit (.bool false)], args := [d] }
  | _ => none }
def VaultKeptWrongFalsely : Prop := vaultKeptRow.holds Tryz.pinned (OpenSpec.ofChange vaultKeptWrong)

/- THE SECOND FORM. 'bulk': how many values and letters a reading holds, each counted each time it is reached (what is shared counts as often as it is met; a slice's spare places count too). A statement '..UptoSaid' is the law's where the arguments, and the package variables that the reading takes, are together of bulk at most 1048576: NARROWER than '..Said'. Prove '..Said' where nothing that the law and all that it calls make is longer than what came in: it says more and counts as full. Else prove '..UptoSaid'. A law counts once. -/
mutual
def uptoBulk {H : Type} : DataW H → Nat
  | .lit (.string bytes) => bytes.length + 1
  | .lit _ => 1
  | .nil => 1
  | .ptr d => uptoBulk d + 1
  | .slice elems spare => uptoBulkAll elems + uptoBulkAll spare + 1
  | .agg parts => uptoBulkAll parts + 1
  | .iface _ d => uptoBulk d + 1
  | .map entries => uptoBulkEntries entries + 1
  | .held _ => 1
def uptoBulkAll {H : Type} : List (DataW H) → Nat
  | [] => 0
  | d :: r => uptoBulk d + uptoBulkAll r
def uptoBulkEntries {H : Type} : List (Lit × DataW H) → Nat
  | [] => 0
  | x :: r => uptoBulkEntry x + uptoBulkEntries r
def uptoBulkEntry {H : Type} : Lit × DataW H → Nat
  | (.string bytes, d) => bytes.length + uptoBulk d + 1
  | (_, d) => uptoBulk d + 1
 end
def uptoSmall : (H : Type) → List (DataW H) → Bool := fun _ ds => decide (uptoBulkAll ds ≤ 1048576)
def OpenSpec.upto (s : _root_.Go.ChangeSpec) : _root_.Go.OpenSpec := { _root_.Go.OpenSpec.ofChange s with cond := some uptoSmall }

/-- 'tenancylaw25.VaultRises', WHERE WHAT IT READS IS OF BULK AT MOST 1048576: true; the input reads as it did. -/
def vaultRisesUptoRow : OpenClaim := { program := "ytipbaajdnnddgaagreat", sum := "b81e43a97f061e14f6f1831a47ce5c7d6b24497097c2cd87e59d683118b7ef31", func := "tenancy/tenancylaw25.VaultRises", spec := "vaultRises", unfollowed := true, recurses := true, apart := false, narrowed := true }
def VaultRisesUptoSaid : Prop := vaultRisesUptoRow.holds Tryz.pinned (OpenSpec.upto vaultRisesSpec)

/-- 'tenancylaw25.VaultNobody', WHERE WHAT IT READS IS OF BULK AT MOST 1048576: true; the input reads as it did. -/
def vaultNobodyUptoRow : OpenClaim := { program := "ytipbaajdnnddgaagreat", sum := "b81e43a97f061e14f6f1831a47ce5c7d6b24497097c2cd87e59d683118b7ef31", func := "tenancy/tenancylaw25.VaultNobody", spec := "vaultNobody", unfollowed := true, recurses := true, apart := false, narrowed := true }
def VaultNobodyUptoSaid : Prop := vaultNobodyUptoRow.holds Tryz.pinned (OpenSpec.upto vaultNobodySpec)

/-- 'tenancylaw25.VaultKept', WHERE WHAT IT READS IS OF BULK AT MOST 1048576: true; the input reads as it did. -/
def vaultKeptUptoRow : OpenClaim := { program := "ytipbaajdnnddgaagreat", sum := "b81e43a97f061e14f6f1831a47ce5c7d6b24497097c2cd87e59d683118b7ef31", func := "tenancy/tenancylaw25.VaultKept", spec := "vaultKept", unfollowed := true, recurses := true, apart := false, narrowed := true }
def VaultKeptUptoSaid : Prop := vaultKeptUptoRow.holds Tryz.pinned (OpenSpec.upto vaultKeptSpec)

end Rows
end Go.Proofs.YtipbaajdnnddgaaGreat
