/- A lease and a watch that no call made: walks, and the walk of the law TermNobody. -/
import Derived.Test.YtnlcnhanhompnaaSc
namespace Go.Proofs.Ytnlcnhanhompnaa
open Go.RowKit Go.Tn

/-- No lease: nil, or one of no term. -/
def NobL (w : World) (v : Value) : Prop := v = .pointer none ∨ ∃ b, v = .pointer (some ⟨b, 0, none⟩) ∧ w.cell? ⟨b, 0, none⟩ = some (.int .u64 0)
/-- No watch: nil, or one without a map. -/
def NobW (w : World) (v : Value) : Prop := v = .pointer none ∨ ∃ b, v = .pointer (some ⟨b, 0, none⟩) ∧ w.cell? ⟨b, 1, none⟩ = some (.map none)

theorem lok_nob (w : World) (v : Value) (h : NobL w v) : Calls Try.prog 27 #[v] w fun e w' => e = .returned (.bool false) ∧ w' = w := by
  rcases h with rfl | ⟨b, rfl, c⟩
  · go_enter Try.func27, Try.ntmps27
    go_wp2
    go_ret
    exact ⟨rfl, rfl⟩
  · go_enter Try.func27, Try.ntmps27
    go_wp2
    go_ret
    exact ⟨rfl, rfl⟩
theorem wok_nob (w : World) (v : Value) (h : NobW w v) : Calls Try.prog 26 #[v] w fun e w' => e = .returned (.bool false) ∧ w' = w := by
  have nmap := fun w => run_neq_map_nil (P := Try.prog) w 62 3 24 none Try.underlying62
  rcases h with rfl | ⟨b, rfl, c⟩
  · go_enter Try.func26, Try.ntmps26
    go_wp2
    go_ret
    exact ⟨rfl, rfl⟩
  · go_enter Try.func26, Try.ntmps26
    go_wp2
    go_ret
    exact ⟨rfl, rfl⟩
theorem lapse_nob (w : World) (v : Value) (h : NobL w v) : Calls Try.prog 17 #[v] w fun e w' => e = .returned (.tuple #[]) ∧ w' = w := by
  go_enter Try.func17, Try.ntmps17
  go_wp2_with (go_at_call 27; refine (lok_nob w v h).mono ?_; rintro e w ⟨rfl, rfl⟩)
  go_end0
  exact ⟨rfl, rfl⟩
theorem forget_nob (w : World) (v : Value) (h : NobW w v) (c : Int) : Calls Try.prog 21 #[v, .int .i64 c] w fun e w' => e = .returned (.tuple #[]) ∧ w' = w := by
  go_enter Try.func21, Try.ntmps21
  go_wp2_with (go_at_call 26; refine (wok_nob w v h).mono ?_; rintro e w ⟨rfl, rfl⟩)
  go_end0
  exact ⟨rfl, rfl⟩
theorem heard_nob (w : World) (v : Value) (h : NobW w v) (c : Int) : Calls Try.prog 22 #[v, .int .i64 c] w fun e w' => e = .returned (.tuple #[.int .u64 0, .bool false]) ∧ w' = w := by
  go_enter Try.func22, Try.ntmps22
  go_wp2_with (go_at_call 26; refine (wok_nob w v h).mono ?_; rintro e w ⟨rfl, rfl⟩)
  go_ret2
  exact ⟨rfl, rfl⟩
theorem until_nob (w : World) (v : Value) (h : NobL w v) : Calls Try.prog 23 #[v] w fun e w' => e = .returned (.int .u64 0) ∧ w' = w := by
  go_enter Try.func23, Try.ntmps23
  go_wp2_with (go_at_call 27; refine (lok_nob w v h).mono ?_; rintro e w ⟨rfl, rfl⟩)
  go_ret
  exact ⟨rfl, rfl⟩
theorem live_nob (w : World) (v : Value) (h : NobL w v) (t : Nat) : Calls Try.prog 13 #[v, .int .u64 t] w fun e w' => e = .returned (.bool false) ∧ w' = w := by
  have ht : (0 : Int) ≤ (t : Int) := by omega
  go_enter Try.func13, Try.ntmps13
  go_wp2_with (go_at_call 23; refine (until_nob w v h).mono ?_; rintro e w ⟨rfl, rfl⟩)
  go_ret
  exact ⟨rfl, rfl⟩
theorem ack_nob (w : World) (v : Value) (h : NobL w v) (t : Nat) : Calls Try.prog 11 #[v, .int .u64 t] w fun e w' => e = .returned (.int .i64 1) ∧ w' = w := by
  go_enter Try.func11, Try.ntmps11
  go_wp2_with (go_at_call 27; refine (lok_nob w v h).mono ?_; rintro e w ⟨rfl, rfl⟩)
  go_ret
  exact ⟨rfl, rfl⟩
theorem hear_nob (w : World) (v : Value) (h : NobW w v) (c : Int) (t : Nat) : Calls Try.prog 10 #[v, .int .i64 c, .int .u64 t] w fun e w' => e = .returned (.int .i64 1) ∧ w' = w := by
  go_enter Try.func10, Try.ntmps10
  go_wp2_with (go_at_call 26; refine (wok_nob w v h).mono ?_; rintro e w ⟨rfl, rfl⟩)
  go_ret
  exact ⟨rfl, rfl⟩
theorem late_nob (w : World) (v : Value) (h : NobW w v) (t : Nat) : Calls Try.prog 12 #[v, .int .u64 t] w fun e w' => e = .returned (.slice none 0 0) ∧ w' = w := by
  go_enter Try.func12, Try.ntmps12
  go_wp2_with (go_at_call 26; refine (wok_nob w v h).mono ?_; rintro e w ⟨rfl, rfl⟩)
  go_ret
  exact ⟨rfl, rfl⟩

set_option maxHeartbeats 2000000 in
set_option maxRecDepth 20000 in
theorem nobody_walk (w : World) (c : Int) (t : Nat) : Calls Try.prog 5 #[.int .i64 c, .int .u64 t] w fun e w' => e = .returned (.bool true) ∧ Below w.heap.size w w' := by
  go_enter Try.func5, Try.ntmps5
  go_wp2
  go_loopw [5] (fun kv wr => ∃ k : Nat, k ≤ 2 ∧ kv = .int .i64 k ∧ Below w.heap.size w wr) (fun kv _ => 2 - (intOf kv).toNat)
  case atStart => exact ⟨0, Nat.zero_le _, rfl, Below.refl _ _⟩
  case round =>
    obtain ⟨k, hk, rfl, hbr⟩ := hrel
    by_cases h2 : k = 2
    · subst h2
      go_wp2_with fail
      refine (lives_any wr).mono ?_
      rintro e w2 ⟨rfl, hb2⟩
      go_wp2
      go_ret
      exact ⟨rfl, hbr.trans (hb2.mono hbr.size)⟩
    · have hN : ∃ w1 v u, (k = 0 ∧ w1 = wr ∧ v = .pointer none ∧ u = .pointer none ∨ k = 1 ∧ w1 = (wr.alloc (.cells #[.int .u64 0, .int .u64 0] 61)).alloc (.cells #[.int .u64 0, .map none] 64) ∧ v = .pointer (some ⟨wr.heap.size, 0, none⟩) ∧ u = .pointer (some ⟨wr.heap.size + 1, 0, none⟩)) ∧ NobL w1 v ∧ NobW w1 u ∧ Below w.heap.size w w1 := by
        by_cases h0 : k = 0
        · exact ⟨_, _, _, .inl ⟨h0, rfl, rfl, rfl⟩, .inl rfl, .inl rfl, hbr⟩
        · have e : (wr.alloc (.cells #[.int .u64 0, .int .u64 0] 61)).heap.size = wr.heap.size + 1 := by simp
          refine ⟨_, _, _, .inr ⟨by omega, rfl, rfl, rfl⟩, .inr ⟨_, rfl, cell_of (heap_alloc_of heap_alloc_at) rfl⟩, .inr ⟨_, rfl, ?_⟩, (hbr.alloc hbr.size _).alloc (by rw [e]; have := hbr.size; omega) _⟩
          rw [← e]
          exact cell_of heap_alloc_at rfl
      obtain ⟨w1, v, u, hcase, hn, hm, hb1⟩ := hN
      rcases hcase with ⟨rfl, rfl, rfl, rfl⟩ | ⟨rfl, hw, hv, hu⟩
      case' inl => go_upto_region 8 with (fail)
      case' inr =>
        go_upto_region 8 with (fail)
        rw [← hw, ← hv, ← hu]
        clear hw hv hu
      all_goals
        go_wp2_with (first
          | (go_at_call 17; refine (lapse_nob _ _ hn).mono ?_; rintro e w2 ⟨rfl, hw2⟩; obtain rfl := hw2.symm; clear hw2)
          | (go_at_call 21; refine (forget_nob _ _ hm c).mono ?_; rintro e w2 ⟨rfl, hw2⟩; obtain rfl := hw2.symm; clear hw2)
          | (go_at_call 22; refine (heard_nob _ _ hm c).mono ?_; rintro e w2 ⟨rfl, hw2⟩; obtain rfl := hw2.symm; clear hw2)
          | (go_at_call 11; refine (ack_nob _ _ hn t).mono ?_; rintro e w2 ⟨rfl, hw2⟩; obtain rfl := hw2.symm; clear hw2)
          | (go_at_call 13; refine (live_nob _ _ hn t).mono ?_; rintro e w2 ⟨rfl, hw2⟩; obtain rfl := hw2.symm; clear hw2)
          | (go_at_call 23; refine (until_nob _ _ hn).mono ?_; rintro e w2 ⟨rfl, hw2⟩; obtain rfl := hw2.symm; clear hw2)
          | (go_at_call 10; refine (hear_nob _ _ hm c t).mono ?_; rintro e w2 ⟨rfl, hw2⟩; obtain rfl := hw2.symm; clear hw2)
          | (go_at_call 12; refine (late_nob _ _ hm t).mono ?_; rintro e w2 ⟨rfl, hw2⟩; obtain rfl := hw2.symm; clear hw2)
          | fail)
        first
          | exact ⟨⟨1, by omega, rfl, hb1⟩, by simp [intOf]⟩
          | exact ⟨⟨2, by omega, rfl, hb1⟩, by simp [intOf]⟩

end Go.Proofs.Ytnlcnhanhompnaa
