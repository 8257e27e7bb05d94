/- HeldNobody walked. -/
import Derived.Test.YthckjciblngaaaaNa
namespace Go.Proofs.Ythckjciblngaaaa
open Go.RowKit Go.Tn Go.Maps Go.Sort Go.Shelf

/-- What the region reads: nobody, the file's box, and the box of what Claim answered. -/
structure SNob (p : Value) (fx : Nat) (i g : Int) (cx : Nat) (w : World) : Prop where
  nob : NobH w p
  box : Lies w fx 0 #[.int .i64 i, .int .i64 g]
  cl : Lies w cx 0 #[.int .i64 0, .int .i64 0]
section
variable {p : Value} {fx : Nat} {i g : Int} {cx : Nat} {w w' : World}
theorem SNob.keep (h : SNob p fx i g cx w) (hb : Below w.heap.size w w') : SNob p fx i g cx w' :=
  ⟨h.nob.below hb, h.box.below' hb (World.block_lt_of_cell? w _ (h.box 0 (by simp))), h.cl.below' hb (World.block_lt_of_cell? w _ (h.cl 0 (by simp)))⟩
theorem SNob.drew (h : SNob p fx i g cx w) : SNob p fx i g cx w.drew := h.keep (Below.refl _ w).drew
theorem SNob.cells (h : SNob p fx i g cx w) : w.cell? ⟨fx, 0, none⟩ = some (.int .i64 i) ∧ w.cell? ⟨fx, 1, none⟩ = some (.int .i64 g) := ⟨h.box 0 (by simp), h.box 1 (by simp)⟩
end

set_option maxRecDepth 40000 in
set_option maxHeartbeats 8000000 in
theorem nobody_walk (w : World) (i g v : Int) : Calls Try.prog 4 #[.agg #[.int .i64 i, .int .i64 g], .int .u64 v] w fun e w' => e = .returned (.bool true) ∧ Below w.heap.size w w' := by
  obtain ⟨w1, hw1⟩ : ∃ w1, w.alloc (.cells #[.int .i64 i, .int .i64 g] 39) = w1 := ⟨_, rfl⟩
  have hW0 : Below w.heap.size w w1 := by rw [← hw1]; exact (Below.refl _ _).alloc (Nat.le_refl _) _
  have hS0 : Lies w1 w.heap.size 0 #[.int .i64 i, .int .i64 g] := by rw [← hw1]; exact box_file
  have H1 := Lib.hid hw1
  have HW0 := Lib.hid hW0
  have HS0 := Lib.hid hS0
  clear hw1 hW0 hS0
  go_enter Try.func4, Try.ntmps4
  go_upto_region 1 with (fail)
  rw [H1.out]
  go_wp2
  go_loopw [5] (fun kv wr => ∃ k : Nat, k ≤ 2 ∧ kv = .int .i64 k ∧ Below w.heap.size w wr ∧ Lies wr w.heap.size 0 #[.int .i64 i, .int .i64 g]) (fun kv _ => 2 - (intOf kv).toNat)
  case atStart => exact ⟨0, by omega, rfl, HW0.out, HS0.out⟩
  case round =>
    obtain ⟨k, hk, rfl, hWr, hFr⟩ := hrel
    clear HW0 HS0
    have hfr : w.heap.size < wr.heap.size := World.block_lt_of_cell? wr _ (hFr 0 (by simp))
    have HWr := Lib.hid hWr
    have HFr := Lib.hid hFr
    clear hWr hFr
    have hk3 : k = 0 ∨ k = 1 ∨ k = 2 := by omega
    rcases hk3 with rfl | rfl | rfl
    · go_upto_region 7 with (fail)
      have HN : Hid (NobH wr (.pointer none)) := Lib.hid (.inl rfl)
      have HW7 := HWr
      have HF7 := HFr
      have hfx := hfr
      go_wp2_with fail
      refine (claim_nob _ _ HN.out).mono ?_
      rintro e w8 ⟨rfl, hb8⟩
      have hW8 := HW7.out.trans (hb8.mono HW7.out.size)
      have hN8 := HN.out.below hb8
      have hF8 := HF7.out.below' hb8 hfx
      have hal : Below w8.heap.size w8 (w8.alloc (.cells #[.int .i64 0, .int .i64 0] 39)) := (Below.refl _ _).alloc (Nat.le_refl _) _
      have hS9 : SNob (.pointer none) w.heap.size i g w8.heap.size (w8.alloc (.cells #[.int .i64 0, .int .i64 0] 39)) := ⟨hN8.below hal, hF8.below' hal (Nat.lt_of_lt_of_le hfx hb8.size), lies_of heap_alloc_at⟩
      have hW9 := hW8.trans (hal.mono hW8.size)
      have H9 := Lib.hid hS9
      have HW9 := Lib.hid hW9
      clear hN8 hF8 hal hS9 hW9 hW8 hb8 HN HW7 HF7 hfx
      go_upto_region 9 with (fail)
      generalize w8.alloc (.cells #[.int .i64 0, .int .i64 0] 39) = w9 at *
      have hS := H9.out.drew
      have hW : Below w.heap.size w w9.drew := HW9.out.drew
      clear H9 HW9
      refine wp_region_g (SNob (.pointer none) w.heap.size i g w8.heap.size) [(0, 0), (1, 1), (2, 1), (3, 1), (4, 1), (5, 1), (6, 1), (7, 1), (8, 1), (9, 1), (10, 1), (11, 1), (12, 2), (13, 1), (14, 1), (15, 1), (16, 1), (18, 1), (21, 1), (22, 0), (25, 1), (17, 2), (19, 2), (20, 1), (23, 2), (24, 1), (26, 2), (27, 1), (28, 1), (29, 1), (30, 1), (31, 1), (32, 0), (33, 2), (34, 1), (35, 1), (36, 1), (37, 1), (38, 1), (39, 2), (40, 1), (41, 1), (42, 1), (43, 1), (46, 1), (50, 1), (44, 2), (45, 1), (47, 2), (48, 1), (49, 1), (51, 2), (52, 1), (53, 1), (54, 1), (55, 1)] (by kernel_rfl) (by kernel_rfl) (by intro d v c a w h; cases d <;> exact h) ?_
      refine g_read rfl rfl hS (fun w' h => exec_loadA (aggF _ _) rfl h.cl) ?_
      iterate 11 (refine g_take rfl rfl (fun K hK => ?_); go_simp; refine hK _ ?_; clear hK K)
      refine g_show' rfl rfl (fun K hK => ?_)
      go_simp
      refine (phase_nob _ _ hS.nob).mono ?_
      rintro e w' ⟨rfl, hw⟩
      obtain rfl := hw.symm
      refine hK _ _ hS ?_
      clear hK K hw
      iterate 6 (refine g_take rfl rfl (fun K hK => ?_); go_simp; refine hK _ ?_; clear hK K)
      refine g_read rfl rfl hS (fun w' h => exec_loadA (aggF _ _) rfl h.box) ?_
      iterate 1 (refine g_take rfl rfl (fun K hK => ?_); go_simp; refine hK _ ?_; clear hK K)
      refine g_show' rfl rfl (fun K hK => ?_)
      go_simp
      refine (session_nob _ _ hS.nob).mono ?_
      rintro e w' ⟨rfl, hw⟩
      obtain rfl := hw.symm
      refine hK _ _ hS ?_
      clear hK K hw
      refine g_show' rfl rfl (fun K hK => ?_)
      go_simp
      refine (boot_nob _ _ hS.nob).mono ?_
      rintro e w' ⟨rfl, hw⟩
      obtain rfl := hw.symm
      refine hK _ _ hS ?_
      clear hK K hw
      iterate 1 (refine g_take rfl rfl (fun K hK => ?_); go_simp; refine hK _ ?_; clear hK K)
      refine g_show' rfl rfl (fun K hK => ?_)
      go_simp
      refine (version_nob _ _ hS.nob i g).mono ?_
      rintro e w' ⟨rfl, hb⟩
      have hW := hW.trans (hb.mono hW.size)
      have hS := hS.keep hb
      refine hK _ _ hS ?_
      clear hK K hb
      iterate 1 (refine g_take rfl rfl (fun K hK => ?_); go_simp; refine hK _ ?_; clear hK K)
      refine g_show' rfl rfl (fun K hK => ?_)
      go_simp
      refine (until_nob _ _ hS.nob).mono ?_
      rintro e w' ⟨rfl, hw⟩
      obtain rfl := hw.symm
      refine hK _ _ hS ?_
      clear hK K hw
      iterate 5 (refine g_take rfl rfl (fun K hK => ?_); go_simp; refine hK _ ?_; clear hK K)
      refine g_read rfl rfl hS (fun w' h => exec_loadA (aggF _ _) rfl h.box) ?_
      refine g_show' rfl rfl (fun K hK => ?_)
      go_simp
      refine (mode_nob _ _ hS.nob i g).mono ?_
      rintro e w' ⟨rfl, hb⟩
      have hW := hW.trans (hb.mono hW.size)
      have hS := hS.keep hb
      refine hK _ _ hS ?_
      clear hK K hb
      iterate 5 (refine g_take rfl rfl (fun K hK => ?_); go_simp; refine hK _ ?_; clear hK K)
      refine g_show' rfl rfl (fun K hK => ?_)
      go_simp
      refine (live_nob _ _ hS.nob v).mono ?_
      rintro e w' ⟨rfl, hw⟩
      obtain rfl := hw.symm
      refine hK _ _ hS ?_
      clear hK K hw
      iterate 6 (refine g_take rfl rfl (fun K hK => ?_); go_simp; refine hK _ ?_; clear hK K)
      refine g_show' rfl rfl (fun K hK => ?_)
      go_simp
      refine (lose_nob _ _ hS.nob v).mono ?_
      rintro e w' ⟨rfl, hw⟩
      obtain rfl := hw.symm
      refine hK _ _ hS ?_
      clear hK K hw
      iterate 1 (refine g_take rfl rfl (fun K hK => ?_); go_simp; refine hK _ ?_; clear hK K)
      refine g_show' rfl rfl (fun K hK => ?_)
      go_simp
      refine (all_nob _ _ hS.nob).mono ?_
      rintro e w' ⟨rfl, hw⟩
      obtain rfl := hw.symm
      refine hK _ _ hS ?_
      clear hK K hw
      iterate 2 (refine g_take rfl rfl (fun K hK => ?_); go_simp; refine hK _ ?_; clear hK K)
      refine g_show' rfl rfl (fun K hK => ?_)
      go_simp
      refine (wanted_nob _ _ hS.nob).mono ?_
      rintro e w' ⟨rfl, hw⟩
      obtain rfl := hw.symm
      refine hK _ _ hS ?_
      clear hK K hw
      iterate 4 (refine g_take rfl rfl (fun K hK => ?_); go_simp; refine hK _ ?_; clear hK K)
      refine g_nil ?_
      obtain ⟨q0, q1⟩ := hS.cells
      go_wp2_with fail
      refine (open_nob _ _ hS.nob v).mono ?_
      rintro e w' ⟨rfl, hw⟩
      obtain rfl := hw.symm
      clear hw
      go_wp2_with fail
      refine (reboot_nob _ _ hS.nob v).mono ?_
      rintro e w' ⟨rfl, hw⟩
      obtain rfl := hw.symm
      clear hw
      go_wp2_with fail
      refine (claimed_nob _ _ hS.nob i g v).mono ?_
      rintro e w' ⟨rfl, hb⟩
      have hW := hW.trans (hb.mono hW.size)
      have hS := hS.keep hb
      obtain ⟨p0, p1⟩ := hS.cells
      clear hb q0 q1
      have q0 := p0
      have q1 := p1
      clear p0 p1
      go_wp2_with fail
      refine (unclaimed_nob _ _ hS.nob i g).mono ?_
      rintro e w' ⟨rfl, hb⟩
      have hW := hW.trans (hb.mono hW.size)
      have hS := hS.keep hb
      obtain ⟨p0, p1⟩ := hS.cells
      clear hb q0 q1
      have q0 := p0
      have q1 := p1
      clear p0 p1
      go_wp2_with fail
      refine (settled_nob _ _ hS.nob).mono ?_
      rintro e w' ⟨rfl, hw⟩
      obtain rfl := hw.symm
      clear hw
      go_wp2_with fail
      refine (grant_nob _ _ hS.nob i g 1 v).mono ?_
      rintro e w' ⟨rfl, hb⟩
      have hW := hW.trans (hb.mono hW.size)
      have hS := hS.keep hb
      obtain ⟨p0, p1⟩ := hS.cells
      clear hb q0 q1
      have q0 := p0
      have q1 := p1
      clear p0 p1
      go_wp2_with fail
      refine (give_nob _ _ hS.nob i g).mono ?_
      rintro e w' ⟨rfl, hb⟩
      have hW := hW.trans (hb.mono hW.size)
      have hS := hS.keep hb
      obtain ⟨p0, p1⟩ := hS.cells
      clear hb q0 q1
      have q0 := p0
      have q1 := p1
      clear p0 p1
      go_wp2_with fail
      refine (update_nob _ _ hS.nob i g v).mono ?_
      rintro e w' ⟨rfl, hb⟩
      have hW := hW.trans (hb.mono hW.size)
      have hS := hS.keep hb
      obtain ⟨p0, p1⟩ := hS.cells
      clear hb q0 q1
      have q0 := p0
      have q1 := p1
      clear p0 p1
      go_wp2_with fail
      refine (want_nob _ _ hS.nob i g).mono ?_
      rintro e w' ⟨rfl, hb⟩
      have hW := hW.trans (hb.mono hW.size)
      have hS := hS.keep hb
      obtain ⟨p0, p1⟩ := hS.cells
      clear hb q0 q1
      have q0 := p0
      have q1 := p1
      clear p0 p1
      go_wp2_with fail
      refine (hack_nob _ _ hS.nob v).mono ?_
      rintro e w' ⟨rfl, hw⟩
      obtain rfl := hw.symm
      clear hw
      have HWE := Lib.hid hW
      have HSE := Lib.hid hS
      clear hW hS q0 q1
      go_wp2
      go_roundw
      case rel => exact ⟨0+1, by omega, by go_num, HWE.out, HSE.out.box⟩
      case measure => simp [intOf]
    · go_upto_region 7 with (fail)
      have hal0 : Below wr.heap.size wr (wr.alloc (.cells #[.pointer none, .int .i64 0, .int .u64 0, .int .u64 0, .map none, .slice none 0 0] 54)) := (Below.refl _ _).alloc (Nat.le_refl _) _
      have HN : Hid (NobH (wr.alloc (.cells #[.pointer none, .int .i64 0, .int .u64 0, .int .u64 0, .map none, .slice none 0 0] 54)) (.pointer (some ⟨wr.heap.size, 0, none⟩))) := Lib.hid (.inr ⟨_, rfl, cell_of heap_alloc_at rfl⟩)
      have HW7 := Lib.hid (HWr.out.trans (hal0.mono HWr.out.size))
      have HF7 := Lib.hid (HFr.out.below' hal0 hfr)
      have hfx : w.heap.size < (wr.alloc (.cells #[.pointer none, .int .i64 0, .int .u64 0, .int .u64 0, .map none, .slice none 0 0] 54)).heap.size := Nat.lt_of_lt_of_le hfr hal0.size
      clear hal0
      go_wp2_with fail
      refine (claim_nob _ _ HN.out).mono ?_
      rintro e w8 ⟨rfl, hb8⟩
      have hW8 := HW7.out.trans (hb8.mono HW7.out.size)
      have hN8 := HN.out.below hb8
      have hF8 := HF7.out.below' hb8 hfx
      have hal : Below w8.heap.size w8 (w8.alloc (.cells #[.int .i64 0, .int .i64 0] 39)) := (Below.refl _ _).alloc (Nat.le_refl _) _
      have hS9 : SNob (.pointer (some ⟨wr.heap.size, 0, none⟩)) w.heap.size i g w8.heap.size (w8.alloc (.cells #[.int .i64 0, .int .i64 0] 39)) := ⟨hN8.below hal, hF8.below' hal (Nat.lt_of_lt_of_le hfx hb8.size), lies_of heap_alloc_at⟩
      have hW9 := hW8.trans (hal.mono hW8.size)
      have H9 := Lib.hid hS9
      have HW9 := Lib.hid hW9
      clear hN8 hF8 hal hS9 hW9 hW8 hb8 HN HW7 HF7 hfx
      go_upto_region 9 with (fail)
      generalize w8.alloc (.cells #[.int .i64 0, .int .i64 0] 39) = w9 at *
      have hS := H9.out.drew
      have hW : Below w.heap.size w w9.drew := HW9.out.drew
      clear H9 HW9
      refine wp_region_g (SNob (.pointer (some ⟨wr.heap.size, 0, none⟩)) w.heap.size i g w8.heap.size) [(0, 0), (1, 1), (2, 1), (3, 1), (4, 1), (5, 1), (6, 1), (7, 1), (8, 1), (9, 1), (10, 1), (11, 1), (12, 2), (13, 1), (14, 1), (15, 1), (16, 1), (18, 1), (21, 1), (22, 0), (25, 1), (17, 2), (19, 2), (20, 1), (23, 2), (24, 1), (26, 2), (27, 1), (28, 1), (29, 1), (30, 1), (31, 1), (32, 0), (33, 2), (34, 1), (35, 1), (36, 1), (37, 1), (38, 1), (39, 2), (40, 1), (41, 1), (42, 1), (43, 1), (46, 1), (50, 1), (44, 2), (45, 1), (47, 2), (48, 1), (49, 1), (51, 2), (52, 1), (53, 1), (54, 1), (55, 1)] (by kernel_rfl) (by kernel_rfl) (by intro d v c a w h; cases d <;> exact h) ?_
      refine g_read rfl rfl hS (fun w' h => exec_loadA (aggF _ _) rfl h.cl) ?_
      iterate 11 (refine g_take rfl rfl (fun K hK => ?_); go_simp; refine hK _ ?_; clear hK K)
      refine g_show' rfl rfl (fun K hK => ?_)
      go_simp
      refine (phase_nob _ _ hS.nob).mono ?_
      rintro e w' ⟨rfl, hw⟩
      obtain rfl := hw.symm
      refine hK _ _ hS ?_
      clear hK K hw
      iterate 6 (refine g_take rfl rfl (fun K hK => ?_); go_simp; refine hK _ ?_; clear hK K)
      refine g_read rfl rfl hS (fun w' h => exec_loadA (aggF _ _) rfl h.box) ?_
      iterate 1 (refine g_take rfl rfl (fun K hK => ?_); go_simp; refine hK _ ?_; clear hK K)
      refine g_show' rfl rfl (fun K hK => ?_)
      go_simp
      refine (session_nob _ _ hS.nob).mono ?_
      rintro e w' ⟨rfl, hw⟩
      obtain rfl := hw.symm
      refine hK _ _ hS ?_
      clear hK K hw
      refine g_show' rfl rfl (fun K hK => ?_)
      go_simp
      refine (boot_nob _ _ hS.nob).mono ?_
      rintro e w' ⟨rfl, hw⟩
      obtain rfl := hw.symm
      refine hK _ _ hS ?_
      clear hK K hw
      iterate 1 (refine g_take rfl rfl (fun K hK => ?_); go_simp; refine hK _ ?_; clear hK K)
      refine g_show' rfl rfl (fun K hK => ?_)
      go_simp
      refine (version_nob _ _ hS.nob i g).mono ?_
      rintro e w' ⟨rfl, hb⟩
      have hW := hW.trans (hb.mono hW.size)
      have hS := hS.keep hb
      refine hK _ _ hS ?_
      clear hK K hb
      iterate 1 (refine g_take rfl rfl (fun K hK => ?_); go_simp; refine hK _ ?_; clear hK K)
      refine g_show' rfl rfl (fun K hK => ?_)
      go_simp
      refine (until_nob _ _ hS.nob).mono ?_
      rintro e w' ⟨rfl, hw⟩
      obtain rfl := hw.symm
      refine hK _ _ hS ?_
      clear hK K hw
      iterate 5 (refine g_take rfl rfl (fun K hK => ?_); go_simp; refine hK _ ?_; clear hK K)
      refine g_read rfl rfl hS (fun w' h => exec_loadA (aggF _ _) rfl h.box) ?_
      refine g_show' rfl rfl (fun K hK => ?_)
      go_simp
      refine (mode_nob _ _ hS.nob i g).mono ?_
      rintro e w' ⟨rfl, hb⟩
      have hW := hW.trans (hb.mono hW.size)
      have hS := hS.keep hb
      refine hK _ _ hS ?_
      clear hK K hb
      iterate 5 (refine g_take rfl rfl (fun K hK => ?_); go_simp; refine hK _ ?_; clear hK K)
      refine g_show' rfl rfl (fun K hK => ?_)
      go_simp
      refine (live_nob _ _ hS.nob v).mono ?_
      rintro e w' ⟨rfl, hw⟩
      obtain rfl := hw.symm
      refine hK _ _ hS ?_
      clear hK K hw
      iterate 6 (refine g_take rfl rfl (fun K hK => ?_); go_simp; refine hK _ ?_; clear hK K)
      refine g_show' rfl rfl (fun K hK => ?_)
      go_simp
      refine (lose_nob _ _ hS.nob v).mono ?_
      rintro e w' ⟨rfl, hw⟩
      obtain rfl := hw.symm
      refine hK _ _ hS ?_
      clear hK K hw
      iterate 1 (refine g_take rfl rfl (fun K hK => ?_); go_simp; refine hK _ ?_; clear hK K)
      refine g_show' rfl rfl (fun K hK => ?_)
      go_simp
      refine (all_nob _ _ hS.nob).mono ?_
      rintro e w' ⟨rfl, hw⟩
      obtain rfl := hw.symm
      refine hK _ _ hS ?_
      clear hK K hw
      iterate 2 (refine g_take rfl rfl (fun K hK => ?_); go_simp; refine hK _ ?_; clear hK K)
      refine g_show' rfl rfl (fun K hK => ?_)
      go_simp
      refine (wanted_nob _ _ hS.nob).mono ?_
      rintro e w' ⟨rfl, hw⟩
      obtain rfl := hw.symm
      refine hK _ _ hS ?_
      clear hK K hw
      iterate 4 (refine g_take rfl rfl (fun K hK => ?_); go_simp; refine hK _ ?_; clear hK K)
      refine g_nil ?_
      obtain ⟨q0, q1⟩ := hS.cells
      go_wp2_with fail
      refine (open_nob _ _ hS.nob v).mono ?_
      rintro e w' ⟨rfl, hw⟩
      obtain rfl := hw.symm
      clear hw
      go_wp2_with fail
      refine (reboot_nob _ _ hS.nob v).mono ?_
      rintro e w' ⟨rfl, hw⟩
      obtain rfl := hw.symm
      clear hw
      go_wp2_with fail
      refine (claimed_nob _ _ hS.nob i g v).mono ?_
      rintro e w' ⟨rfl, hb⟩
      have hW := hW.trans (hb.mono hW.size)
      have hS := hS.keep hb
      obtain ⟨p0, p1⟩ := hS.cells
      clear hb q0 q1
      have q0 := p0
      have q1 := p1
      clear p0 p1
      go_wp2_with fail
      refine (unclaimed_nob _ _ hS.nob i g).mono ?_
      rintro e w' ⟨rfl, hb⟩
      have hW := hW.trans (hb.mono hW.size)
      have hS := hS.keep hb
      obtain ⟨p0, p1⟩ := hS.cells
      clear hb q0 q1
      have q0 := p0
      have q1 := p1
      clear p0 p1
      go_wp2_with fail
      refine (settled_nob _ _ hS.nob).mono ?_
      rintro e w' ⟨rfl, hw⟩
      obtain rfl := hw.symm
      clear hw
      go_wp2_with fail
      refine (grant_nob _ _ hS.nob i g 1 v).mono ?_
      rintro e w' ⟨rfl, hb⟩
      have hW := hW.trans (hb.mono hW.size)
      have hS := hS.keep hb
      obtain ⟨p0, p1⟩ := hS.cells
      clear hb q0 q1
      have q0 := p0
      have q1 := p1
      clear p0 p1
      go_wp2_with fail
      refine (give_nob _ _ hS.nob i g).mono ?_
      rintro e w' ⟨rfl, hb⟩
      have hW := hW.trans (hb.mono hW.size)
      have hS := hS.keep hb
      obtain ⟨p0, p1⟩ := hS.cells
      clear hb q0 q1
      have q0 := p0
      have q1 := p1
      clear p0 p1
      go_wp2_with fail
      refine (update_nob _ _ hS.nob i g v).mono ?_
      rintro e w' ⟨rfl, hb⟩
      have hW := hW.trans (hb.mono hW.size)
      have hS := hS.keep hb
      obtain ⟨p0, p1⟩ := hS.cells
      clear hb q0 q1
      have q0 := p0
      have q1 := p1
      clear p0 p1
      go_wp2_with fail
      refine (want_nob _ _ hS.nob i g).mono ?_
      rintro e w' ⟨rfl, hb⟩
      have hW := hW.trans (hb.mono hW.size)
      have hS := hS.keep hb
      obtain ⟨p0, p1⟩ := hS.cells
      clear hb q0 q1
      have q0 := p0
      have q1 := p1
      clear p0 p1
      go_wp2_with fail
      refine (hack_nob _ _ hS.nob v).mono ?_
      rintro e w' ⟨rfl, hw⟩
      obtain rfl := hw.symm
      clear hw
      have HWE := Lib.hid hW
      have HSE := Lib.hid hS
      clear hW hS q0 q1
      go_wp2
      go_roundw
      case rel => exact ⟨1+1, by omega, by go_num, HWE.out, HSE.out.box⟩
      case measure => simp [intOf]
    · go_wp2_with fail
      refine (lives_any wr).mono ?_
      rintro e w2 ⟨rfl, hb2⟩
      go_wp2
      go_ret
      exact ⟨rfl, HWr.out.trans (hb2.mono HWr.out.size)⟩
end Go.Proofs.Ythckjciblngaaaa
