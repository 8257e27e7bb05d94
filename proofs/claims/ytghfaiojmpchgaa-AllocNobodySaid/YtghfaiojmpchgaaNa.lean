/- A map that no call made: walks, and the walk of the law AllocNobody. -/
import Derived.Test.YtghfaiojmpchgaaWd
namespace Go.Proofs.Ytghfaiojmpchgaa
open Go.RowKit Go.Tn Go.Tn.Bits

/-- No map: nil, or one of no homes. -/
def Nob (w : World) (v : Value) : Prop := v = .pointer none ∨ ∃ b, v = .pointer (some ⟨b, 0, none⟩) ∧ w.cell? ⟨b, 0, none⟩ = some (.int .i64 0)
theorem Nob.drewN {w : World} {v : Value} (h : Nob w v) (k : Nat) : Nob (w.drewN k) v := h

theorem ok_nob (w : World) (v : Value) (h : Nob w v) : Calls Try.prog 29 #[v] w fun e w' => e = .returned (.bool false) ∧ w' = w := by
  rcases h with rfl | ⟨b, rfl, c⟩
  · go_enter Try.func29, Try.ntmps29
    go_wp2
    go_ret
    exact ⟨rfl, rfl⟩
  · go_enter Try.func29, Try.ntmps29
    go_wp2
    go_ret
    exact ⟨rfl, rfl⟩
theorem in_nob (w : World) (v : Value) (h : Nob w v) (i : Int) : Calls Try.prog 33 #[v, .int .i64 i] w fun e w' => e = .returned (.bool false) ∧ w' = w := by
  go_enter Try.func33, Try.ntmps33
  go_wp2_with (go_at_call 29; refine (ok_nob w v h).mono ?_; rintro e w ⟨rfl, rfl⟩)
  go_ret
  exact ⟨rfl, rfl⟩
theorem has_nob (w : World) (v : Value) (h : Nob w v) (i : Int) : Calls Try.prog 20 #[v, .int .i64 i] w fun e w' => e = .returned (.bool false) ∧ ∃ k, w' = w.drewN k := by
  go_enter Try.func20, Try.ntmps20
  go_wp2
  go_quiet (first | (go_at_call 33; refine Calls.quiet_of_same (in_nob _ v (h.drewN _) i)))
  go_wp2
  go_ret
  exact ⟨rfl, nq, rfl⟩
theorem turn_nob (w : World) (v : Value) (h : Nob w v) (i : Int) (is : Bool) (wrong : Int) : Calls Try.prog 28 #[v, .int .i64 i, .bool is, .int .i64 wrong] w fun e w' => e = .returned (.int .i64 1) ∧ w' = w := by
  go_enter Try.func28, Try.ntmps28
  go_wp2_with (go_at_call 29; refine (ok_nob w v h).mono ?_; rintro e w ⟨rfl, rfl⟩)
  go_ret
  exact ⟨rfl, rfl⟩
theorem hold_nob (w : World) (v : Value) (h : Nob w v) (i : Int) : Calls Try.prog 9 #[v, .int .i64 i] w fun e w' => e = .returned (.int .i64 1) ∧ w' = w := by
  go_enter Try.func9, Try.ntmps9
  go_wp2_with (go_at_call 28; refine (turn_nob w v h i _ _).mono ?_; rintro e w ⟨rfl, rfl⟩)
  go_ret
  exact ⟨rfl, rfl⟩
theorem give_nob (w : World) (v : Value) (h : Nob w v) (i : Int) : Calls Try.prog 17 #[v, .int .i64 i] w fun e w' => e = .returned (.int .i64 1) ∧ w' = w := by
  go_enter Try.func17, Try.ntmps17
  go_wp2_with (go_at_call 28; refine (turn_nob w v h i _ _).mono ?_; rintro e w ⟨rfl, rfl⟩)
  go_ret
  exact ⟨rfl, rfl⟩
theorem free_nob (w : World) (v : Value) (h : Nob w v) : Calls Try.prog 11 #[v] w fun e w' => e = .returned (.int .i64 0) ∧ w' = w := by
  go_enter Try.func11, Try.ntmps11
  go_wp2_with (go_at_call 29; refine (ok_nob w v h).mono ?_; rintro e w ⟨rfl, rfl⟩)
  go_ret
  exact ⟨rfl, rfl⟩
theorem take_nob (w : World) (v : Value) (h : Nob w v) : Calls Try.prog 12 #[v] w fun e w' => e = .returned (.tuple #[.int .i64 (-1), .int .i64 1]) ∧ w' = w := by
  go_enter Try.func12, Try.ntmps12
  go_wp2_with (go_at_call 29; refine (ok_nob w v h).mono ?_; rintro e w ⟨rfl, rfl⟩)
  go_ret2
  exact ⟨rfl, rfl⟩
theorem copy_nob (w : World) (v : Value) (h : Nob w v) : Calls Try.prog 10 #[v] w fun e w' => e = .returned (.pointer none) ∧ w' = w := by
  go_enter Try.func10, Try.ntmps10
  go_wp2_with (go_at_call 29; refine (ok_nob w v h).mono ?_; rintro e w ⟨rfl, rfl⟩)
  go_ret
  exact ⟨rfl, rfl⟩
theorem bytes_nob (w : World) (v : Value) (h : Nob w v) : Calls Try.prog 23 #[v] w fun e w' => e = .returned (.slice none 0 0) ∧ w' = w := by
  go_enter Try.func23, Try.ntmps23
  go_wp2_with (go_at_call 29; refine (ok_nob w v h).mono ?_; rintro e w ⟨rfl, rfl⟩)
  go_ret
  exact ⟨rfl, rfl⟩

theorem zero_cells (w : World) : (Instr.build 53 #[]).run Try.prog w = .ok (.agg (mapCells 0 (fun _ => false))) w := by kernel_rfl
theorem Nob.new {w : World} : Nob (w.alloc (.cells (mapCells 0 (fun _ => false)) 53)) (.pointer (some ⟨w.heap.size, 0, none⟩)) := .inr ⟨_, rfl, cell_of heap_alloc_at rfl⟩

set_option maxHeartbeats 2000000 in
theorem nobody_walk (w : World) (i : Int) : Calls Try.prog 5 #[.int .i64 i] w fun e w' => e = .returned (.bool true) ∧ Below w.heap.size w w' := by
  go_enter Try.func5, Try.ntmps5
  go_wp2
  go_loopw [3] (fun c wr => ∃ k : Nat, k ≤ 2 ∧ c = .int .i64 k ∧ Below w.heap.size w wr) (fun c _ => 2 - (intOf c).toNat)
  case atStart => exact ⟨0, Nat.zero_le _, rfl, Below.refl _ _⟩
  case round =>
    obtain ⟨k, hk, rfl, hbr⟩ := hrel
    by_cases h2 : k = 2
    · subst h2
      go_wp2_with fail
      refine (lives_any wr).mono ?_
      rintro e w2 ⟨rfl, hb2⟩
      go_wp2
      go_ret
      exact ⟨rfl, hbr.trans (hb2.mono hbr.size)⟩
    · have hN : ∃ w1 v, (k = 0 ∧ w1 = wr ∧ v = .pointer none ∨ k = 1 ∧ w1 = wr.alloc (.cells (mapCells 0 (fun _ => false)) 53) ∧ v = .pointer (some ⟨wr.heap.size, 0, none⟩)) ∧ Nob w1 v ∧ Below w.heap.size w w1 := by
        by_cases h0 : k = 0
        · exact ⟨_, _, .inl ⟨h0, rfl, rfl⟩, .inl rfl, hbr⟩
        · exact ⟨_, _, .inr ⟨by omega, rfl, rfl⟩, Nob.new, hbr.alloc hbr.size _⟩
      obtain ⟨w1, v, hcase, hn, hb1⟩ := hN
      rcases hcase with ⟨rfl, rfl, rfl⟩ | ⟨rfl, hw, hv⟩
      case' inl => go_upto_region 7 with (fail)
      case' inr =>
        go_upto_region 7 with (first
          | ((with_reducible refine wpList_exec rfl (exec_build (vals := #[]) ?_ (zero_cells _)) ?_); rfl; go_frame)
          | fail)
        rw [← hw, ← hv]
        clear hw hv
      all_goals
        go_upto_region 8 with (first
          | (go_at_call 12; refine (take_nob _ _ hn).mono ?_; rintro e w2 ⟨rfl, hw2⟩; obtain rfl := hw2.symm; clear hw2)
          | fail)
        go_wp2_with (first
          | (go_at_call 9; refine (hold_nob _ _ hn i).mono ?_; rintro e w2 ⟨rfl, hw2⟩; obtain rfl := hw2.symm; clear hw2)
          | (go_at_call 17; refine (give_nob _ _ hn i).mono ?_; rintro e w2 ⟨rfl, hw2⟩; obtain rfl := hw2.symm; clear hw2)
          | (go_at_call 11; refine (free_nob _ _ (hn.drewN _)).mono ?_; rintro e w2 ⟨rfl, hw2⟩; obtain rfl := hw2.symm; clear hw2)
          | (go_at_call 10; refine (copy_nob _ _ (hn.drewN _)).mono ?_; rintro e w2 ⟨rfl, hw2⟩; obtain rfl := hw2.symm; clear hw2)
          | (go_at_call 23; refine (bytes_nob _ _ (hn.drewN _)).mono ?_; rintro e w2 ⟨rfl, hw2⟩; obtain rfl := hw2.symm; clear hw2)
          | (go_at_call 20; refine (has_nob _ _ hn i).mono ?_; rintro e w3 ⟨rfl, nd, rfl⟩)
          | fail)
        first
          | exact ⟨⟨1, by omega, rfl, below_drewN hb1 nd⟩, by simp [intOf]⟩
          | exact ⟨⟨2, by omega, rfl, below_drewN hb1 nd⟩, by simp [intOf]⟩

end Go.Proofs.Ytghfaiojmpchgaa
