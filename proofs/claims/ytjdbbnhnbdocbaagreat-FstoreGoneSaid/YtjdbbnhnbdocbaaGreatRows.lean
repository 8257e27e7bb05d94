/-
  No cell of these rows narrows 'for every input' (looked for: loops, veiled, ifaces, maps, wideKeys, modest, calm, conditions, laid).
  DERIVED. THE GIVEN ROWS OF THIS SEAT. 6 by the template 'for every input the law returns true; each argument reads behind the call as it read before'; 0 by the template 'total and deterministic' (their statements: YtjdbbnhnbdocbaaGreatTotals.lean).
  GIVEN WITH THE SEED: the statements are not yours to turn. If you find one false, say at which input.
  Laid BY PROGRAM, IN A SANDBOX (cutbox-rows.mjs): the forced cells as the released guide's own fill.sh prints them over the translation 318a785e5221439e… (all of the seat's roots in one cut). By AI agents, Wed Nov 11 2026. No macro, syntax, notation, axiom, sorry.
-/
import Derived.Test.YtjdbbnhnbdocbaaGreatChecked
import GoSem.Claim
import GoSem.ClaimJoined
import GoSem.ClaimMapViews
import Derived.JoinedTies
import Derived.KernelRfl
namespace Go.Proofs.YtjdbbnhnbdocbaaGreat
/- THE CELL 'sum', in the pinned program and in every row, IS THE sha256 OF THE DUMP (.gsa) THAT YtjdbbnhnbdocbaaGreatProg.lean LOADS. Nothing in Lean hashes anything: it is a label: what it is worth is what the hold of that sum in a sandbox is worth. -/
noncomputable def Tryz.pinned : Pinned := { name := "ytjdbbnhnbdocbaagreat", sum := "318a785e5221439e923ca60ab31465e6b1dd398eacfda2c195fadaa104bec749", checked := Tryz.checked }
namespace Rows
def none {H : Type} : Left H := { results := [], args := [] }

/-- 'tenancylaw11.FstoreSound': WHATEVER THE INPUT: true; the input reads as it did. -/
def fstoreSoundSpec : ChangeSpec := { name := "fstoreSound", fn := fun _ => fun
  | [d1, d2] => { results := [.lit (.bool true)], args := [d1, d2] }
  | _ => none }
def fstoreSoundRow : OpenClaim := { program := "ytjdbbnhnbdocbaagreat", sum := "318a785e5221439e923ca60ab31465e6b1dd398eacfda2c195fadaa104bec749", func := "tenancy/tenancylaw11.FstoreSound", spec := "fstoreSound", inPlace := ["internal/bytealg.abigen_runtime_cmpstring"], unfollowed := true, recurses := true, plainKeys := false, apart := false }
def FstoreSoundSaid : Prop := fstoreSoundRow.holds Tryz.pinned (OpenSpec.ofChange fstoreSoundSpec)

/-- ITS FALSE NEIGHBOUR: 'it returns false'. Refute it at one input. -/
def fstoreSoundWrong : ChangeSpec := { name := "fstoreSound", fn := fun _ => fun
  | [d1, d2] => { results := [.lit (.bool false)], args := [d1, d2] }
  | _ => none }
def FstoreSoundWrongFalsely : Prop := fstoreSoundRow.holds Tryz.pinned (OpenSpec.ofChange fstoreSoundWrong)

/-- 'tenancylaw11.FstoreGone': WHATEVER THE INPUT: true; the input reads as it did. -/
def fstoreGoneSpec : ChangeSpec := { name := "fstoreGone", fn := fun _ => fun
  | [d1, d2, d3] => { results := [.lit (.bool true)], args := [d1, d2, d3] }
  | _ => none }
def fstoreGoneRow : OpenClaim := { program := "ytjdbbnhnbdocbaagreat", sum := "318a785e5221439e923ca60ab31465e6b1dd398eacfda2c195fadaa104bec749", func := "tenancy/tenancylaw11.FstoreGone", spec := "fstoreGone", inPlace := ["internal/bytealg.abigen_runtime_cmpstring"], unfollowed := true, recurses := true, plainKeys := false, apart := false }
def FstoreGoneSaid : Prop := fstoreGoneRow.holds Tryz.pinned (OpenSpec.ofChange fstoreGoneSpec)

/-- ITS FALSE NEIGHBOUR: 'it returns false'. Refute it at one input. -/
def fstoreGoneWrong : ChangeSpec := { name := "fstoreGone", fn := fun _ => fun
  | [d1, d2, d3] => { results := [.lit (.bool false)], args := [d1, d2, d3] }
  | _ => none }
def FstoreGoneWrongFalsely : Prop := fstoreGoneRow.holds Tryz.pinned (OpenSpec.ofChange fstoreGoneWrong)

/-- 'tenancylaw11.FstorePlays': WHATEVER THE INPUT: true; the input reads as it did. -/
def fstorePlaysSpec : ChangeSpec := { name := "fstorePlays", fn := fun _ => fun
  | [d1, d2] => { results := [.lit (.bool true)], args := [d1, d2] }
  | _ => none }
def fstorePlaysRow : OpenClaim := { program := "ytjdbbnhnbdocbaagreat", sum := "318a785e5221439e923ca60ab31465e6b1dd398eacfda2c195fadaa104bec749", func := "tenancy/tenancylaw11.FstorePlays", spec := "fstorePlays", inPlace := ["internal/bytealg.abigen_runtime_cmpstring"], unfollowed := true, recurses := true, plainKeys := false, apart := false }
def FstorePlaysSaid : Prop := fstorePlaysRow.holds Tryz.pinned (OpenSpec.ofChange fstorePlaysSpec)

/-- ITS FALSE NEIGHBOUR: 'it returns false'. Refute it at one input. -/
def fstorePlaysWrong : ChangeSpec := { name := "fstorePlays", fn := fun _ => fun
  | [d1, d2] => { results := [.lit (.bool false)], args := [d1, d2] }
  | _ => none }
def FstorePlaysWrongFalsely : Prop := fstorePlaysRow.holds Tryz.pinned (OpenSpec.ofChange fstorePlaysWrong)

/-- 'tenancylaw11.FstoreOpens': WHATEVER THE INPUT: true; the input reads as it did. -/
def fstoreOpensSpec : ChangeSpec := { name := "fstoreOpens", fn := fun _ => fun
  | [d1, d2, d3, d4] => { results := [.lit (.bool true)], args := [d1, d2, d3, d4] }
  | _ => none }
def fstoreOpensRow : OpenClaim := { program := "ytjdbbnhnbdocbaagreat", sum := "318a785e5221439e923ca60ab31465e6b1dd398eacfda2c195fadaa104bec749", func := "tenancy/tenancylaw11.FstoreOpens", spec := "fstoreOpens", inPlace := ["internal/bytealg.abigen_runtime_cmpstring"], unfollowed := true, recurses := true, plainKeys := false, apart := false }
def FstoreOpensSaid : Prop := fstoreOpensRow.holds Tryz.pinned (OpenSpec.ofChange fstoreOpensSpec)

/-- ITS FALSE NEIGHBOUR: 'it returns false'. Refute it at one input. -/
def fstoreOpensWrong : ChangeSpec := { name := "fstoreOpens", fn := fun _ => fun
  | [d1, d2, d3, d4] => { results := [.lit (.bool false)], args := [d1, d2, d3, d4] }
  | _ => none }
def FstoreOpensWrongFalsely : Prop := fstoreOpensRow.holds Tryz.pinned (OpenSpec.ofChange fstoreOpensWrong)

/-- 'tenancylaw11.FstoreKept': WHATEVER THE INPUT: true; the input reads as it did. -/
def fstoreKeptSpec : ChangeSpec := { name := "fstoreKept", fn := fun _ => fun
  | [d1, d2] => { results := [.lit (.bool true)], args := [d1, d2] }
  | _ => none }
def fstoreKeptRow : OpenClaim := { program := "ytjdbbnhnbdocbaagreat", sum := "318a785e5221439e923ca60ab31465e6b1dd398eacfda2c195fadaa104bec749", func := "tenancy/tenancylaw11.FstoreKept", spec := "fstoreKept", inPlace := ["internal/bytealg.abigen_runtime_cmpstring"], unfollowed := true, recurses := true, plainKeys := false, apart := false }
def FstoreKeptSaid : Prop := fstoreKeptRow.holds Tryz.pinned (OpenSpec.ofChange fstoreKeptSpec)

/-- ITS FALSE NEIGHBOUR: 'it returns false'. Refute it at one input. -/
def fstoreKeptWrong : ChangeSpec := { name := "fstoreKept", fn := fun _ => fun
  | [d1, d2] => { results := [.lit (.bool false)], args := [d1, d2] }
  | _ => none }
def FstoreKeptWrongFalsely : Prop := fstoreKeptRow.holds Tryz.pinned (OpenSpec.ofChange fstoreKeptWrong)

/-- 'tenancylaw31.AtomStores': WHATEVER THE INPUT: true; the input reads as it did. -/
def atomStoresSpec : ChangeSpec := { name := "atomStores", fn := fun _ => fun
  | [d1, d2] => { results := [.lit (.bool true)], args := [d1, d2] }
  | _ => none }
def atomStoresRow : OpenClaim := { program := "ytjdbbnhnbdocbaagreat", sum := "318a785e5221439e923ca60ab31465e6b1dd398eacfda2c195fadaa104bec749", func := "tenancy/tenancylaw31.AtomStores", spec := "atomStores", inPlace := ["internal/bytealg.abigen_runtime_cmpstring"], unfollowed := true, recurses := true, plainKeys := false, apart := false }
def AtomStoresSaid : Prop := atomStoresRow.holds Tryz.pinned (OpenSpec.ofChange atomStoresSpec)

/-- ITS FALSE NEIGHBOUR: 'it returns false'. Refute it at one input. -/
def atomStoresWrong : ChangeSpec := { name := "atomStores", fn := fun _ => fun
  | [d1, d2] => { results := [.lit (.bool false)], args := [d1, d2] }
  | _ => none }
def AtomStoresWrongFalsely : Prop := atomStoresRow.holds Tryz.pinned (OpenSpec.ofChange atomStoresWrong)

/- THE SECOND FORM. 'bulk': how many values and letters a reading holds, each counted each time it is reached (what is shared counts as often as it is met; a slice's spare places count too). A statement '..UptoSaid' is the law's where the arguments, and the package variables that the reading takes, are together of bulk at most 1048576: NARROWER than '..Said'. Prove '..Said' where nothing that the law and all that it calls make is longer than what came in: it says more and counts as full. Else prove '..UptoSaid'. A law counts once. -/
mutual
def uptoBulk {H : Type} : DataW H → Nat
  | .lit (.string bytes) => bytes.length + 1
  | .lit _ => 1
  | .nil => 1
  | .ptr d => uptoBulk d + 1
  | .slice elems spare => uptoBulkAll elems + uptoBulkAll spare + 1
  | .agg parts => uptoBulkAll parts + 1
  | .iface _ d => uptoBulk d + 1
  | .map entries => uptoBulkEntries entries + 1
  | .held _ => 1
def uptoBulkAll {H : Type} : List (DataW H) → Nat
  | [] => 0
  | d :: r => uptoBulk d + uptoBulkAll r
def uptoBulkEntries {H : Type} : List (Lit × DataW H) → Nat
  | [] => 0
  | x :: r => uptoBulkEntry x + uptoBulkEntries r
def uptoBulkEntry {H : Type} : Lit × DataW H → Nat
  | (.string bytes, d) => bytes.length + uptoBulk d + 1
  | (_, d) => uptoBulk d + 1
 end
def uptoSmall : (H : Type) → List (DataW H) → Bool := fun _ ds => decide (uptoBulkAll ds ≤ 1048576)
def OpenSpec.upto (s : _root_.Go.ChangeSpec) : _root_.Go.OpenSpec := { _root_.Go.OpenSpec.ofChange s with cond := some uptoSmall }

/-- 'tenancylaw11.FstoreSound', WHERE WHAT IT READS IS OF BULK AT MOST 1048576: true; the input reads as it did. -/
def fstoreSoundUptoRow : OpenClaim := { program := "ytjdbbnhnbdocbaagreat", sum := "318a785e5221439e923ca60ab31465e6b1dd398eacfda2c195fadaa104bec749", func := "tenancy/tenancylaw11.FstoreSound", spec := "fstoreSound", inPlace := ["internal/bytealg.abigen_runtime_cmpstring"], unfollowed := true, recurses := true, plainKeys := false, apart := false, narrowed := true }
def FstoreSoundUptoSaid : Prop := fstoreSoundUptoRow.holds Tryz.pinned (OpenSpec.upto fstoreSoundSpec)

/-- 'tenancylaw11.FstoreGone', WHERE WHAT IT READS IS OF BULK AT MOST 1048576: true; the input reads as it did. -/
def fstoreGoneUptoRow : OpenClaim := { program := "ytjdbbnhnbdocbaagreat", sum := "318a785e5221439e923ca60ab31465e6b1dd398eacfda2c195fadaa104bec749", func := "tenancy/tenancylaw11.FstoreGone", spec := "fstoreGone", inPlace := ["internal/bytealg.abigen_runtime_cmpstring"], unfollowed := true, recurses := true, plainKeys := false, apart := false, narrowed := true }
def FstoreGoneUptoSaid : Prop := fstoreGoneUptoRow.holds Tryz.pinned (OpenSpec.upto fstoreGoneSpec)

/-- 'tenancylaw11.FstorePlays', WHERE WHAT IT READS IS OF BULK AT MOST 1048576: true; the input reads as it did. -/
def fstorePlaysUptoRow : OpenClaim := { program := "ytjdbbnhnbdocbaagreat", sum := "318a785e5221439e923ca60ab31465e6b1dd398eacfda2c195fadaa104bec749", func := "tenancy/tenancylaw11.FstorePlays", spec := "fstorePlays", inPlace := ["internal/bytealg.abigen_runtime_cmpstring"], unfollowed := true, recurses := true, plainKeys := false, apart := false, narrowed := true }
def FstorePlaysUptoSaid : Prop := fstorePlaysUptoRow.holds Tryz.pinned (OpenSpec.upto fstorePlaysSpec)

/-- 'tenancylaw11.FstoreOpens', WHERE WHAT IT READS IS OF BULK AT MOST 1048576: true; the input reads as it did. -/
def fstoreOpensUptoRow : OpenClaim := { program := "ytjdbbnhnbdocbaagreat", sum := "318a785e5221439e923ca60ab31465e6b1dd398eacfda2c195fadaa104bec749", func := "tenancy/tenancylaw11.FstoreOpens", spec := "fstoreOpens", inPlace := ["internal/bytealg.abigen_runtime_cmpstring"], unfollowed := true, recurses := true, plainKeys := false, apart := false, narrowed := true }
def FstoreOpensUptoSaid : Prop := fstoreOpensUptoRow.holds Tryz.pinned (OpenSpec.upto fstoreOpensSpec)

/-- 'tenancylaw11.FstoreKept', WHERE WHAT IT READS IS OF BULK AT MOST 1048576: true; the input reads as it did. -/
def fstoreKeptUptoRow : OpenClaim := { program := "ytjdbbnhnbdocbaagreat", sum := "318a785e5221439e923ca60ab31465e6b1dd398eacfda2c195fadaa104bec749", func := "tenancy/tenancylaw11.FstoreKept", spec := "fstoreKept", inPlace := ["internal/bytealg.abigen_runtime_cmpstring"], unfollowed := true, recurses := true, plainKeys := false, apart := false, narrowed := true }
def FstoreKeptUptoSaid : Prop := fstoreKeptUptoRow.holds Tryz.pinned (OpenSpec.upto fstoreKeptSpec)

/-- 'tenancylaw31.AtomStores', WHERE WHAT IT READS IS OF BULK AT MOST 1048576: true; the input reads as it did. -/
def atomStoresUptoRow : OpenClaim := { program := "ytjdbbnhnbdocbaagreat", sum := "318a785e5221439e923ca60ab31465e6b1dd398eacfda2c195fadaa104bec749", func := "tenancy/tenancylaw31.AtomStores", spec := "atomStores", inPlace := ["internal/bytealg.abigen_runtime_cmpstring"], unfollowed := true, recurses := true, plainKeys := false, apart := false, narrowed := true }
def AtomStoresUptoSaid : Prop := atomStoresUptoRow.holds Tryz.pinned (OpenSpec.upto atomStoresSpec)

end Rows
end Go.Proofs.YtjdbbnhnbdocbaaGreat
