/- The rows of calls that the laws are handed; Within. -/
import Derived.Test.YtnjiocikpigegaaPl
namespace Go.Proofs.Ytnjiocikpigegaa
open Go.RowKit Go.Tn Go.Tn.Mo Go.Maps Go.Sort Go.Shelf

/-- One call. -/
structure DoR where
  k : Int
  c : Int
  m : Int
  i : Int
  g : Int
abbrev enD : DoR → List Value := fun d => [.int .i64 d.k, .int .i64 d.c, .int .i64 d.m, .int .i64 d.i, .int .i64 d.g]
abbrev fileOf (d : DoR) : Fi := (d.i, d.g)

theorem within07 (w : World) (x : Int) : Calls Try.prog 8 #[.int .i64 x, .int .i64 0, .int .i64 7] w fun e w' => (∃ k : Nat, k < 8 ∧ e = .returned (.int .i64 k)) ∧ w' = w := by
  by_cases h1 : x < 0
  · go_enter Try.func8, Try.ntmps8
    go_wp2
    go_ret
    exact ⟨⟨0, by omega, rfl⟩, rfl⟩
  · by_cases h2 : 7 < x
    · go_enter Try.func8, Try.ntmps8
      go_wp2
      go_ret
      exact ⟨⟨7, by omega, rfl⟩, rfl⟩
    · obtain ⟨k, rfl⟩ := Int.eq_ofNat_of_zero_le (show 0 ≤ x by omega)
      have h3 : k < 8 := by omega
      go_enter Try.func8, Try.ntmps8
      go_wp2
      go_ret
      exact ⟨⟨k, h3, rfl⟩, rfl⟩
theorem within12 (w : World) (x : Int) : Calls Try.prog 8 #[.int .i64 x, .int .i64 1, .int .i64 2] w fun e w' => (∃ k : Nat, 1 ≤ k ∧ k ≤ 2 ∧ e = .returned (.int .i64 k)) ∧ w' = w := by
  by_cases h1 : x < 1
  · go_enter Try.func8, Try.ntmps8
    go_wp2
    go_ret
    exact ⟨⟨1, by omega, by omega, rfl⟩, rfl⟩
  · by_cases h2 : 2 < x
    · go_enter Try.func8, Try.ntmps8
      go_wp2
      go_ret
      exact ⟨⟨2, by omega, by omega, rfl⟩, rfl⟩
    · obtain ⟨k, rfl⟩ := Int.eq_ofNat_of_zero_le (show 0 ≤ x by omega)
      have h3 : k = 1 ∨ k = 2 := by omega
      clear h1 h2
      rcases h3 with rfl | rfl
      · go_enter Try.func8, Try.ntmps8
        go_wp2
        go_ret
        exact ⟨⟨1, by omega, by omega, rfl⟩, rfl⟩
      · go_enter Try.func8, Try.ntmps8
        go_wp2
        go_ret
        exact ⟨⟨2, by omega, by omega, rfl⟩, rfl⟩

theorem setM_same (M : Fi → Nat) (f : Fi) (v : Nat) : setM M f v f = v := by unfold setM; rw [if_pos rfl]
theorem setM_setM (M : Fi → Nat) (f : Fi) (u v : Nat) : setM (setM M f u) f v = setM M f v := by
  funext x
  unfold setM
  by_cases h : x = f <;> simp [h]
theorem setM_id (M : Fi → Nat) (f : Fi) : setM M f (M f) = M := by
  funext x
  unfold setM
  by_cases h : x = f <;> simp [h]

/-- Behind all others' dropping nobody stands in the way. -/
theorem other_dropAll (m : Nat) (c d : Int) : otherL (dropAll m (otherL m c d)) c d = [] := by
  rw [otherL_nil]
  intro x hx hne hz hor
  have h8 : ∀ y ∈ otherL m c d, y < 8 := fun y hy => (otherL_mem.1 hy).1
  rw [mo_dropAll _ m h8 x hx] at hz hor
  by_cases hin : x ∈ otherL m c d
  · rw [if_pos hin] at hz
    exact hz rfl
  · rw [if_neg hin] at hz hor
    exact hin (otherL_mem.2 ⟨hx, hz, hne, hor⟩)
/-- One's own change stands in nobody's way. -/
theorem other_own (m : Nat) {c : Nat} (hc : c < 8) {y : Nat} (hy : y < 3) (d : Int) (h : otherL m c d = []) : otherL (wi m c y) c d = [] := by
  rw [otherL_nil] at h ⊢
  intro x hx hne hz hor
  have hxc : x ≠ c := by omega
  rw [mo_wi m hc hx hy, if_neg hxc] at hz hor
  exact h x hx hne hz hor
end Go.Proofs.Ytnjiocikpigegaa
