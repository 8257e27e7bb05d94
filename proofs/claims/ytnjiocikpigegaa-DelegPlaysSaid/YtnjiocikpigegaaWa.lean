/- Delegations: what all clients have of a file (two bits a client), a file as a key, the table in memory; in, of, with, set, Mode. -/
import Derived.Test.YtnjiocikpigegaaOps
import Derived.Test.YtnjiocikpigegaaOrd
import Derived.Test.YtnjiocikpigegaaOrg
import Derived.Test.YtnjiocikpigegaaMo
import Derived.Test.YtnjiocikpigegaaRows
import Derived.BigQuiet
import Derived.WalkKit
import Derived.Deep.Cut
namespace Go.Proofs.Ytnjiocikpigegaa
open Go.RowKit Go.Tn Go.Tn.Mo

theorem in_yes (w : World) (c : Nat) (h : c < 8) : Calls Try.prog 28 #[.int .i64 c] w fun e w' => e = .returned (.bool true) ∧ w' = w := by
  have h0 : (0 : Int) ≤ (c : Int) := by omega
  have h1 : (c : Int) < 8 := by omega
  clear h
  go_enter Try.func28, Try.ntmps28
  go_wp2
  go_ret
  exact ⟨rfl, rfl⟩
theorem in_no (w : World) (c : Int) (h : c < 0 ∨ 8 ≤ c) : Calls Try.prog 28 #[.int .i64 c] w fun e w' => e = .returned (.bool false) ∧ w' = w := by
  rcases h with h1 | h1
  · have h0 : ¬ (0 : Int) ≤ c := by omega
    clear h1
    go_enter Try.func28, Try.ntmps28
    go_wp2
    go_ret
    exact ⟨rfl, rfl⟩
  · have h0 : (0 : Int) ≤ c := by omega
    have h2 : ¬ c < 8 := by omega
    clear h1
    go_enter Try.func28, Try.ntmps28
    go_wp2
    go_ret
    exact ⟨rfl, rfl⟩

set_option maxHeartbeats 1000000 in
theorem mOf_any (w : World) (m c : Nat) (hm : m < 65536) (hc : c < 8) : Calls Try.prog 32 #[.int .u16 m, .int .i64 c] w fun e w' => e = .returned (.int .i64 (mo m c)) ∧ w' = w := by
  have h0 : (0 : Int) ≤ (m : Int) := by omega
  have h1 : (m : Int) < 65536 := by omega
  rcases lt8 hc with rfl | rfl | rfl | rfl | rfl | rfl | rfl | rfl
  all_goals
    go_enter Try.func32, Try.ntmps32
    go_wp2
    go_ret
    refine ⟨?_, rfl⟩
    simp only [Array.getD_eq_getD_getElem?]
    refine congrArg (fun z => Ending.returned (Value.int .i64 z)) ?_
    refine of_eq64 hm _ _ ?_
    first
      | omega
      | simp

set_option maxHeartbeats 4000000 in
theorem mWith_any (w : World) (m c d : Nat) (hm : m < 65536) (hc : c < 8) (hd : d < 3) : Calls Try.prog 31 #[.int .u16 m, .int .i64 c, .int .i64 d] w fun e w' => e = .returned (.int .u16 (wi m c d)) ∧ ∃ n, w' = w.drewN n := by
  have h0 : (0 : Int) ≤ (m : Int) := by omega
  have h1 : (m : Int) < 65536 := by omega
  have hd3 : d = 0 ∨ d = 1 ∨ d = 2 := by omega
  clear hd
  rcases lt8 hc with rfl | rfl | rfl | rfl | rfl | rfl | rfl | rfl <;> rcases hd3 with rfl | rfl | rfl
  all_goals
    go_enter Try.func31, Try.ntmps31
    go_wp2
    go_quiet (fail)
    go_wp2
    go_ret
    refine ⟨?_, _, rfl⟩
    exact congrArg (fun z => Ending.returned (Value.int .u16 z)) (with_eq hm (by decide) (by decide))
end Go.Proofs.Ytnjiocikpigegaa
