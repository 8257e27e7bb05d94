/- Proved: DelegNobody returns true and its arguments read as they did. No condition: of every file and every two numbers. -/
import Derived.Test.YtnjiocikpigegaaLv
import Derived.ProofKit
import Derived.OpenShut
import Derived.ShutString
import Derived.ChangeOld
import Derived.Lib.SmallJoins
namespace Go.Proofs.Ytnjiocikpigegaa
open Go.ChangeShapes Go.WideShapes Go.ChangeAt Go.RowKit Go.Tn Go.Tn.Mo Go.Joins

theorem hold_nil : holdL 0 8 = [] := by decide
theorem grant_nil (w : World) (i g client mode : Int) : Calls Try.prog 9 #[.pointer none, .agg #[.int .i64 i, .int .i64 g], .int .i64 client, .int .i64 mode] w fun e w' => e = .returned (.int .i64 1) ∧ Below w.heap.size w w' := by
  have hW : Below w.heap.size w (w.alloc (.cells #[.int .i64 i, .int .i64 g] 24)) := (Below.refl _ _).alloc (Nat.le_refl _) _
  go_enter Try.func9, Try.ntmps9
  go_wp2
  go_ret
  exact ⟨rfl, hW⟩
theorem drop_nil (w : World) (i g client : Int) : Calls Try.prog 11 #[.pointer none, .agg #[.int .i64 i, .int .i64 g], .int .i64 client] w fun e w' => e = .returned (.int .i64 1) ∧ Below w.heap.size w w' := by
  have hW : Below w.heap.size w (w.alloc (.cells #[.int .i64 i, .int .i64 g] 24)) := (Below.refl _ _).alloc (Nat.le_refl _) _
  go_enter Try.func11, Try.ntmps11
  go_wp2
  go_ret
  exact ⟨rfl, hW⟩
theorem mode_nil (w : World) (i g client : Int) : Calls Try.prog 12 #[.pointer none, .agg #[.int .i64 i, .int .i64 g], .int .i64 client] w fun e w' => e = .returned (.int .i64 0) ∧ Below w.heap.size w w' := by
  have h := mode_any w (.pointer none) (fun _ => 0) (.inl ⟨rfl, rfl⟩) i g client
  rw [modeI_zero] at h
  exact h
theorem holders_nil (w : World) (i g : Int) : Calls Try.prog 25 #[.pointer none, .agg #[.int .i64 i, .int .i64 g]] w fun e w' => (∃ ao cap, e = .returned (.slice ao 0 cap)) ∧ Below w.heap.size w w' := by
  refine (holders_any w (.pointer none) (fun _ => 0) (.inl ⟨rfl, rfl⟩) i g).mono ?_
  rintro e w' ⟨⟨v, rfl, hO⟩, hb⟩
  rw [hold_nil] at hO
  obtain ⟨ao, cap, rfl, _⟩ := hO.sl elI.len
  exact ⟨⟨ao, cap, rfl⟩, hb⟩
theorem others_nil (w : World) (i g client mode : Int) : Calls Try.prog 10 #[.pointer none, .agg #[.int .i64 i, .int .i64 g], .int .i64 client, .int .i64 mode] w fun e w' => (∃ ao cap, e = .returned (.slice ao 0 cap)) ∧ Below w.heap.size w w' := by
  refine (others_any w (.pointer none) (fun _ => 0) (.inl ⟨rfl, rfl⟩) i g client mode).mono ?_
  rintro e w' ⟨⟨v, rfl, hO⟩, hb⟩
  unfold otherL at hO
  rw [hold_nil] at hO
  obtain ⟨ao, cap, rfl, _⟩ := hO.sl elI.len
  exact ⟨⟨ao, cap, rfl⟩, hb⟩
theorem filesOf_none : FilesOf (fun _ => 0) [] := ⟨.nil, by simp⟩
theorem of_nil (w : World) (client : Int) : Calls Try.prog 27 #[.pointer none, .int .i64 client] w fun e w' => (∃ ao cap, e = .returned (.slice ao 0 cap)) ∧ Below w.heap.size w w' := by
  refine (of_files w (.pointer none) (fun _ => 0) (.inl ⟨rfl, rfl⟩) [] filesOf_none client).mono ?_
  rintro e w' ⟨⟨v, rfl, hO⟩, _, hb⟩
  obtain ⟨ao, cap, rfl, _⟩ := hO.sl elF.len
  exact ⟨⟨ao, cap, rfl⟩, hb⟩
theorem files_nil2 (w : World) : Calls Try.prog 26 #[.pointer none] w fun e w' => (∃ ao cap, e = .returned (.slice ao 0 cap)) ∧ Below w.heap.size w w' := by
  refine (files_nil w).mono ?_
  rintro e w' ⟨rfl, rfl⟩
  exact ⟨⟨_, _, rfl⟩, Below.refl _ _⟩
theorem len_nil (w : World) : Calls Try.prog 22 #[.pointer none] w fun e w' => e = .returned (.int .i64 0) ∧ Below w.heap.size w w' :=
  len_any w (.pointer none) (fun _ => 0) (.inl ⟨rfl, rfl⟩) [] filesOf_none
theorem dropClient_nil (w : World) (client : Int) : Calls Try.prog 16 #[.pointer none, .int .i64 client] w fun e w' => (∃ ao cap, e = .returned (.slice ao 0 cap)) ∧ Below w.heap.size w w' := by
  go_enter Try.func16, Try.ntmps16
  go_wp2_with fail
  refine (of_nil _ client).mono ?_
  rintro e w2 ⟨⟨ao, cap, rfl⟩, hb⟩
  go_wp2
  refine wp_loop_rounds 1 ?_
  rw [rounds_succ]
  go_wp2
  go_ret
  exact ⟨⟨_, _, rfl⟩, hb⟩
theorem dropFile_nil (w : World) (i g : Int) : Calls Try.prog 21 #[.pointer none, .agg #[.int .i64 i, .int .i64 g]] w fun e w' => (∃ ao cap, e = .returned (.slice ao 0 cap)) ∧ Below w.heap.size w w' := by
  have hW : Below w.heap.size w (w.alloc (.cells #[.int .i64 i, .int .i64 g] 24)) := (Below.refl _ _).alloc (Nat.le_refl _) _
  go_enter Try.func21, Try.ntmps21
  go_wp2_with fail
  refine (holders_nil _ i g).mono ?_
  rintro e w2 ⟨⟨ao, cap, rfl⟩, hb⟩
  go_wp2
  go_ret
  exact ⟨⟨_, _, rfl⟩, hW.trans (hb.mono (by simp))⟩

set_option maxRecDepth 20000 in
set_option maxHeartbeats 8000000 in
theorem nobody_walk (w : World) (i g client mode : Int) : Calls Try.prog 6 #[.agg #[.int .i64 i, .int .i64 g], .int .i64 client, .int .i64 mode] w fun e w' => e = .returned (.bool true) ∧ Below w.heap.size w w' := by
  obtain ⟨w1, hw1⟩ : ∃ w1, w.alloc (.cells #[.int .i64 i, .int .i64 g] 24) = w1 := ⟨_, rfl⟩
  have hW0 : Below w.heap.size w w1 := by rw [← hw1]; exact (Below.refl _ _).alloc (Nat.le_refl _) _
  have hW : Below w.heap.size w w1.drew := hW0.drew
  have hS0 : Lies w1 w.heap.size 0 #[.int .i64 i, .int .i64 g] := by rw [← hw1]; exact box_file
  have hS : Lies w1.drew w.heap.size 0 #[.int .i64 i, .int .i64 g] := hS0
  have hlt : w.heap.size < w1.drew.heap.size := by rw [← hw1]; simp
  have hlt0 := hlt
  have H1 := Lib.hid hw1
  clear hw1 hW0 hS0
  go_enter Try.func6, Try.ntmps6
  go_upto_region 2 with (fail)
  rw [H1.out]
  refine wp_region_g (fun w' => Lies w' w.heap.size 0 #[.int .i64 i, .int .i64 g]) [(0, 1), (1, 0), (2, 1), (3, 1), (4, 2), (5, 1), (6, 1), (7, 1), (8, 0), (9, 1), (10, 2), (11, 1), (12, 1), (13, 1), (14, 1), (15, 0), (16, 1), (17, 2), (18, 1), (19, 1), (20, 1), (21, 1), (22, 0), (23, 1), (24, 1), (27, 1), (28, 1), (32, 1), (33, 0), (37, 1), (38, 1), (42, 1), (43, 0), (47, 1), (51, 1), (25, 2), (26, 1), (29, 2), (30, 1), (31, 1), (34, 2), (35, 1), (36, 1), (39, 2), (40, 1), (41, 1), (44, 2), (45, 1), (46, 1), (48, 2), (49, 1), (50, 1), (52, 2), (53, 1), (54, 1), (55, 1), (56, 1), (57, 2), (58, 1), (59, 1)] (by kernel_rfl) (by kernel_rfl) (by intro d v c a w h; cases d <;> exact h) ?_
  iterate 1 (refine g_take rfl rfl (fun K hK => ?_); go_simp; refine hK _ ?_; clear hK K)
  refine g_read rfl rfl hS (fun w' h => exec_loadA (aggF _ _) rfl h) ?_
  iterate 2 (refine g_take rfl rfl (fun K hK => ?_); go_simp; refine hK _ ?_; clear hK K)
  refine g_show' rfl rfl (fun K hK => ?_)
  go_simp
  refine (grant_nil _ i g client mode).mono ?_
  rintro e w' ⟨rfl, hb⟩
  have hS := Lies.below' hS hb hlt
  have hlt := Nat.lt_of_lt_of_le hlt hb.size
  have hW := hW.trans (hb.mono (Nat.le_of_lt hlt0))
  have hlt0 := Nat.lt_of_lt_of_le hlt0 hb.size
  refine hK _ _ hS ?_
  clear hK K hb
  iterate 3 (refine g_take rfl rfl (fun K hK => ?_); go_simp; refine hK _ ?_; clear hK K)
  refine g_read rfl rfl hS (fun w' h => exec_loadA (aggF _ _) rfl h) ?_
  iterate 1 (refine g_take rfl rfl (fun K hK => ?_); go_simp; refine hK _ ?_; clear hK K)
  refine g_show' rfl rfl (fun K hK => ?_)
  go_simp
  refine (drop_nil _ i g client).mono ?_
  rintro e w' ⟨rfl, hb⟩
  have hS := Lies.below' hS hb hlt
  have hlt := Nat.lt_of_lt_of_le hlt hb.size
  have hW := hW.trans (hb.mono (Nat.le_of_lt hlt0))
  have hlt0 := Nat.lt_of_lt_of_le hlt0 hb.size
  refine hK _ _ hS ?_
  clear hK K hb
  iterate 4 (refine g_take rfl rfl (fun K hK => ?_); go_simp; refine hK _ ?_; clear hK K)
  refine g_read rfl rfl hS (fun w' h => exec_loadA (aggF _ _) rfl h) ?_
  iterate 1 (refine g_take rfl rfl (fun K hK => ?_); go_simp; refine hK _ ?_; clear hK K)
  refine g_show' rfl rfl (fun K hK => ?_)
  go_simp
  refine (mode_nil _ i g client).mono ?_
  rintro e w' ⟨rfl, hb⟩
  have hS := Lies.below' hS hb hlt
  have hlt := Nat.lt_of_lt_of_le hlt hb.size
  have hW := hW.trans (hb.mono (Nat.le_of_lt hlt0))
  have hlt0 := Nat.lt_of_lt_of_le hlt0 hb.size
  refine hK _ _ hS ?_
  clear hK K hb
  iterate 4 (refine g_take rfl rfl (fun K hK => ?_); go_simp; refine hK _ ?_; clear hK K)
  refine g_read rfl rfl hS (fun w' h => exec_loadA (aggF _ _) rfl h) ?_
  iterate 5 (refine g_take rfl rfl (fun K hK => ?_); go_simp; refine hK _ ?_; clear hK K)
  refine g_read rfl rfl hS (fun w' h => exec_loadA (aggF _ _) rfl h) ?_
  iterate 3 (refine g_take rfl rfl (fun K hK => ?_); go_simp; refine hK _ ?_; clear hK K)
  refine g_read rfl rfl hS (fun w' h => exec_loadA (aggF _ _) rfl h) ?_
  iterate 2 (refine g_take rfl rfl (fun K hK => ?_); go_simp; refine hK _ ?_; clear hK K)
  refine g_show' rfl rfl (fun K hK => ?_)
  go_simp
  refine (others_nil _ i g client mode).mono ?_
  rintro e w' ⟨⟨ao, cap, rfl⟩, hb⟩
  have hS := Lies.below' hS hb hlt
  have hlt := Nat.lt_of_lt_of_le hlt hb.size
  have hW := hW.trans (hb.mono (Nat.le_of_lt hlt0))
  have hlt0 := Nat.lt_of_lt_of_le hlt0 hb.size
  refine hK _ _ hS ?_
  clear hK K hb
  iterate 1 (refine g_take rfl rfl (fun K hK => ?_); go_simp; refine hK _ ?_; clear hK K)
  refine g_show' rfl rfl (fun K hK => ?_)
  go_simp
  refine (dropClient_nil _ client).mono ?_
  rintro e w' ⟨⟨ao, cap, rfl⟩, hb⟩
  have hS := Lies.below' hS hb hlt
  have hlt := Nat.lt_of_lt_of_le hlt hb.size
  have hW := hW.trans (hb.mono (Nat.le_of_lt hlt0))
  have hlt0 := Nat.lt_of_lt_of_le hlt0 hb.size
  refine hK _ _ hS ?_
  clear hK K hb
  iterate 2 (refine g_take rfl rfl (fun K hK => ?_); go_simp; refine hK _ ?_; clear hK K)
  refine g_show' rfl rfl (fun K hK => ?_)
  go_simp
  refine (dropFile_nil _ i g).mono ?_
  rintro e w' ⟨⟨ao, cap, rfl⟩, hb⟩
  have hS := Lies.below' hS hb hlt
  have hlt := Nat.lt_of_lt_of_le hlt hb.size
  have hW := hW.trans (hb.mono (Nat.le_of_lt hlt0))
  have hlt0 := Nat.lt_of_lt_of_le hlt0 hb.size
  refine hK _ _ hS ?_
  clear hK K hb
  iterate 2 (refine g_take rfl rfl (fun K hK => ?_); go_simp; refine hK _ ?_; clear hK K)
  refine g_show' rfl rfl (fun K hK => ?_)
  go_simp
  refine (of_nil _ client).mono ?_
  rintro e w' ⟨⟨ao, cap, rfl⟩, hb⟩
  have hS := Lies.below' hS hb hlt
  have hlt := Nat.lt_of_lt_of_le hlt hb.size
  have hW := hW.trans (hb.mono (Nat.le_of_lt hlt0))
  have hlt0 := Nat.lt_of_lt_of_le hlt0 hb.size
  refine hK _ _ hS ?_
  clear hK K hb
  iterate 2 (refine g_take rfl rfl (fun K hK => ?_); go_simp; refine hK _ ?_; clear hK K)
  refine g_show' rfl rfl (fun K hK => ?_)
  go_simp
  refine (holders_nil _ i g).mono ?_
  rintro e w' ⟨⟨ao, cap, rfl⟩, hb⟩
  have hS := Lies.below' hS hb hlt
  have hlt := Nat.lt_of_lt_of_le hlt hb.size
  have hW := hW.trans (hb.mono (Nat.le_of_lt hlt0))
  have hlt0 := Nat.lt_of_lt_of_le hlt0 hb.size
  refine hK _ _ hS ?_
  clear hK K hb
  iterate 2 (refine g_take rfl rfl (fun K hK => ?_); go_simp; refine hK _ ?_; clear hK K)
  refine g_show' rfl rfl (fun K hK => ?_)
  go_simp
  refine (files_nil2 _).mono ?_
  rintro e w' ⟨⟨ao, cap, rfl⟩, hb⟩
  have hS := Lies.below' hS hb hlt
  have hlt := Nat.lt_of_lt_of_le hlt hb.size
  have hW := hW.trans (hb.mono (Nat.le_of_lt hlt0))
  have hlt0 := Nat.lt_of_lt_of_le hlt0 hb.size
  refine hK _ _ hS ?_
  clear hK K hb
  iterate 2 (refine g_take rfl rfl (fun K hK => ?_); go_simp; refine hK _ ?_; clear hK K)
  refine g_show' rfl rfl (fun K hK => ?_)
  go_simp
  refine (len_nil _).mono ?_
  rintro e w' ⟨rfl, hb⟩
  have hS := Lies.below' hS hb hlt
  have hlt := Nat.lt_of_lt_of_le hlt hb.size
  have hW := hW.trans (hb.mono (Nat.le_of_lt hlt0))
  have hlt0 := Nat.lt_of_lt_of_le hlt0 hb.size
  refine hK _ _ hS ?_
  clear hK K hb
  iterate 4 (refine g_take rfl rfl (fun K hK => ?_); go_simp; refine hK _ ?_; clear hK K)
  refine g_show' rfl rfl (fun K hK => ?_)
  go_simp
  refine (lives_any _).mono ?_
  rintro e w' ⟨rfl, hb⟩
  have hS := Lies.below' hS hb hlt
  have hlt := Nat.lt_of_lt_of_le hlt hb.size
  have hW := hW.trans (hb.mono (Nat.le_of_lt hlt0))
  have hlt0 := Nat.lt_of_lt_of_le hlt0 hb.size
  refine hK _ _ hS ?_
  clear hK K hb
  iterate 2 (refine g_take rfl rfl (fun K hK => ?_); go_simp; refine hK _ ?_; clear hK K)
  refine g_nil ?_
  go_wp2
  go_ret
  exact ⟨rfl, hW⟩
end Go.Proofs.Ytnjiocikpigegaa
