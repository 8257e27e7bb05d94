/- Leases and watches in memory, and walks of their smallest functions. -/
import Derived.Test.YtnlcnhanhompnaaRows
import Derived.Test.YtnlcnhanhompnaaOrd
import Derived.Test.YtnlcnhanhompnaaSt
import Derived.Test.YtnlcnhanhompnaaOps
import Derived.Test.YtnlcnhanhompnaaKeys
import Derived.BigQuiet
import Derived.WalkKit
import Derived.Deep.Cut
namespace Go.Proofs.Ytnlcnhanhompnaa
open Go.RowKit Go.Tn

/-- A lease of term t that lasts until u. -/
structure LeaseAt (w : World) (b t u : Nat) : Prop where
  blk : w.heap[b]? = some (.cells #[.int .u64 t, .int .u64 u] 61 (0, 0))
  pos : 1 ≤ t
  le : t ≤ 1024
  ule : u ≤ 1099511627775 + 1024
theorem LeaseAt.mod {w w' : World} {b t u : Nat} {S : Nat → Prop} (h : LeaseAt w b t u) (hm : Mod S w w') (hS : ¬ S b) : LeaseAt w' b t u := ⟨hm.heap h.blk hS, h.pos, h.le, h.ule⟩
theorem LeaseAt.lt {w : World} {b t u : Nat} (h : LeaseAt w b t u) : b < w.heap.size := lt_of_block h.blk
theorem LeaseAt.c0 {w : World} {b t u : Nat} (h : LeaseAt w b t u) : w.cell? ⟨b, 0, none⟩ = some (.int .u64 t) := cell_of h.blk rfl
theorem LeaseAt.c1 {w : World} {b t u : Nat} (h : LeaseAt w b t u) : w.cell? ⟨b, 1, none⟩ = some (.int .u64 u) := cell_of h.blk rfl
theorem LeaseAt.free {w : World} {b t u : Nat} (h : LeaseAt w b t u) {o : Nat} : w.frozen? ⟨b, o, none⟩ = false := free_of h.blk
theorem scalar64 : ScalarT Try.prog 24 := ⟨⟨_, Try.underlying24, rfl⟩⟩
theorem size64 : (Try.prog.info? 24).map (·.size) = some 1 := by kernel_rfl

theorem may_any (w : World) (x : Int) : Calls Try.prog 25 #[.int .i64 x] w fun e w' => e = .returned (.bool (decide (1 ≤ x ∧ x ≤ 1024))) ∧ w' = w := by
  by_cases h1 : 1 ≤ x
  · by_cases h2 : x ≤ 1024
    · go_enter Try.func25, Try.ntmps25
      go_wp2
      go_ret
      exact ⟨by rw [decide_eq_true (by omega)]; rfl, rfl⟩
    · have h2' : 1024 < x := by omega
      go_enter Try.func25, Try.ntmps25
      go_wp2
      go_ret
      exact ⟨by rw [decide_eq_false (by omega)]; rfl, rfl⟩
  · have h1' : x < 1 := by omega
    go_enter Try.func25, Try.ntmps25
    go_wp2
    go_ret
    exact ⟨by rw [decide_eq_false (by omega)]; rfl, rfl⟩
theorem lok_any (w : World) (b t u : Nat) (h : LeaseAt w b t u) : Calls Try.prog 27 #[.pointer (some ⟨b, 0, none⟩)] w fun e w' => e = .returned (.bool true) ∧ w' = w := by
  have c := h.c0
  have hp : 0 < t := h.pos
  go_enter Try.func27, Try.ntmps27
  go_wp2
  go_ret
  exact ⟨rfl, rfl⟩
theorem until_any (w : World) (b t u : Nat) (h : LeaseAt w b t u) : Calls Try.prog 23 #[.pointer (some ⟨b, 0, none⟩)] w fun e w' => e = .returned (.int .u64 u) ∧ w' = w := by
  have c := h.c1
  go_enter Try.func23, Try.ntmps23
  go_wp2_with (go_at_call 27; refine (lok_any _ b t u h).mono ?_; rintro e w ⟨rfl, rfl⟩)
  go_ret
  exact ⟨rfl, rfl⟩
theorem live_any (w : World) (b t u : Nat) (h : LeaseAt w b t u) (now : Nat) : Calls Try.prog 13 #[.pointer (some ⟨b, 0, none⟩), .int .u64 now] w
    fun e w' => e = .returned (.bool (decide (now < u ∧ now ≤ 1099511627775))) ∧ w' = w := by
  by_cases h1 : now < u
  · have h1' : (now : Int) < (u : Int) := by omega
    by_cases h2 : now ≤ 1099511627775
    · have h2' : (now : Int) ≤ 1099511627775 := by omega
      go_enter Try.func13, Try.ntmps13
      go_wp2_with (go_at_call 23; refine (until_any _ b t u h).mono ?_; rintro e w ⟨rfl, rfl⟩)
      go_ret
      exact ⟨by rw [decide_eq_true (show now < u ∧ now ≤ 1099511627775 by omega)]; rfl, rfl⟩
    · have h2' : (1099511627775 : Int) < (now : Int) := by omega
      have hdec : decide ((now : Int) ≤ 1099511627775) = false := by simp; omega
      go_enter Try.func13, Try.ntmps13
      go_wp2_with (go_at_call 23; refine (until_any _ b t u h).mono ?_; rintro e w ⟨rfl, rfl⟩)
      go_ret
      exact ⟨by rw [decide_eq_false (show ¬ (now < u ∧ now ≤ 1099511627775) by omega)]; rfl, rfl⟩
  · have h1' : (u : Int) ≤ (now : Int) := by omega
    go_enter Try.func13, Try.ntmps13
    go_wp2_with (go_at_call 23; refine (until_any _ b t u h).mono ?_; rintro e w ⟨rfl, rfl⟩)
    go_ret
    exact ⟨by rw [decide_eq_false (show ¬ (now < u ∧ now ≤ 1099511627775) by omega)]; rfl, rfl⟩
theorem span_ok (w : World) (t r : Nat) (h1 : 1 ≤ t) (h2 : t ≤ 1024) (h3 : 1 ≤ r) (h4 : r ≤ 16) : Calls Try.prog 7 #[.int .i64 t, .int .i64 r] w
    fun e w' => e = .returned (.tuple #[.int .u64 (t * r : Nat), .int .i64 0]) ∧ w' = w := by
  have hm := fun w => may_any w (t : Int)
  rw [decide_eq_true (show 1 ≤ (t : Int) ∧ (t : Int) ≤ 1024 by omega)] at hm
  have h3' : (1 : Int) ≤ (r : Int) := by omega
  have h4' : (r : Int) ≤ 16 := by omega
  have hmul : t * r ≤ 16384 := Nat.le_trans (Nat.mul_le_mul h2 h4) (by decide)
  go_enter Try.func7, Try.ntmps7
  go_wp2_with (go_at_call 25; refine (hm _).mono ?_; rintro e w ⟨rfl, rfl⟩)
  go_ret2
  exact ⟨by rw [Int.natCast_mul]; rfl, rfl⟩
theorem newLease_ok (w : World) (t : Nat) (h1 : 1 ≤ t) (h2 : t ≤ 1024) : Calls Try.prog 8 #[.int .i64 t] w
    fun e w' => e = .returned (.tuple #[.pointer (some ⟨w.heap.size, 0, none⟩), .int .i64 0]) ∧ LeaseAt w' w.heap.size t 0 ∧ Below w.heap.size w w' := by
  have hm := fun w => may_any w (t : Int)
  rw [decide_eq_true (show 1 ≤ (t : Int) ∧ (t : Int) ≤ 1024 by omega)] at hm
  go_enter Try.func8, Try.ntmps8
  go_wp2_with (go_at_call 25; refine (hm _).mono ?_; rintro e w ⟨rfl, rfl⟩)
  go_ret2
  exact ⟨rfl, ⟨heap_alloc_at, h1, h2, by omega⟩, (Below.refl _ _).alloc (Nat.le_refl _) _⟩
theorem ack_ok (w : World) (b t u : Nat) (h : LeaseAt w b t u) (s : Nat) (hs : s ≤ 1099511627775) : Calls Try.prog 11 #[.pointer (some ⟨b, 0, none⟩), .int .u64 s] w
    fun e w' => e = .returned (.int .i64 0) ∧ LeaseAt w' b t (max u (s + t)) ∧ Mod (fun x => x = b) w w' := by
  have c0 := h.c0
  have c1 := h.c1
  have hs' : (s : Int) ≤ 1099511627775 := by omega
  have hp := h.le
  have hu := h.ule
  have hmax : ((s : Int) + (t : Int) ≤ (u : Int) ∧ max u (s + t) = u) ∨ ((u : Int) < (s : Int) + (t : Int) ∧ max u (s + t) = s + t) := by omega
  rcases hmax with ⟨hcmp, hmx⟩ | ⟨hcmp, hmx⟩
  all_goals
    rw [hmx]
    clear hmx
    have hL0 := h
    go_enter Try.func11, Try.ntmps11
    go_upto_region 5 with (go_at_call 27; refine (lok_any _ b t u h).mono ?_; rintro e w ⟨rfl, rfl⟩)
    refine wp_region_x (fun w' => w'.cell? ⟨b, 1, none⟩ = some (.int .u64 u) ∧ w'.cell? ⟨b, 0, none⟩ = some (.int .u64 t)) [(0, 1), (1, 1), (2, 1), (3, 1), (4, 0), (5, 1), (6, 1), (7, 1), (8, 1), (9, 0), (10, 1), (11, 1), (12, 1), (13, 1), (14, 3)] (by kernel_rfl) (by kernel_rfl) (by intro d v c a w h; cases d <;> exact h) ?_
    iterate 4 (refine x_take rfl (fun K hK => ?_); go_simp; refine hK _ ?_; clear hK K)
    refine x_read rfl ⟨c1, c0⟩ (fun w' h => exec_load1 scalar64 rfl h.1) ?_
    iterate 4 (refine x_take rfl (fun K hK => ?_); go_simp; refine hK _ ?_; clear hK K)
    refine x_read rfl ⟨c1, c0⟩ (fun w' h => exec_load1 scalar64 rfl h.2) ?_
    iterate 4 (refine x_take rfl (fun K hK => ?_); go_simp; refine hK _ ?_; clear hK K)
    refine x_skip rfl (exec_store1 scalar64 size64 rfl rfl rfl c1 hL0.free) ?_
    refine x_nil ?_
    go_wp2
    go_ret
    refine ⟨rfl, ⟨(heap_setCell_at hL0.blk).trans ?_, hL0.pos, hL0.le, by omega⟩, ((Mod.refl (fun x => x = b) w).setCell ⟨b, 1, none⟩ _ (fun _ => rfl)).drew⟩
    first | rfl | (rw [Int.natCast_add]; rfl)
end Go.Proofs.Ytnlcnhanhompnaa
