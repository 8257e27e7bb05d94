/- Held: lives, walked. -/
import Derived.Test.YthckjciblngaaaaHc
namespace Go.Proofs.Ythckjciblngaaaa
open Go.RowKit Go.Tn Go.Maps Go.Sort Go.Shelf

theorem boxCells {w w' : World} {bx : Nat} {i g : Int} (h : w.cell? ⟨bx, 0, none⟩ = some (.int .i64 i) ∧ w.cell? ⟨bx, 1, none⟩ = some (.int .i64 g)) {S : Nat → Prop} (hm : Mod S w w') (hS : ¬ S bx) : w'.cell? ⟨bx, 0, none⟩ = some (.int .i64 i) ∧ w'.cell? ⟨bx, 1, none⟩ = some (.int .i64 g) := by
  have hb := hm.block bx (World.block_lt_of_cell? w _ h.1) hS
  exact ⟨(World.cell?_of_block (a := ⟨bx, 0, none⟩) hb).trans h.1, (World.cell?_of_block (a := ⟨bx, 1, none⟩) hb).trans h.2⟩

set_option maxHeartbeats 1000000 in
theorem lives_any (w : World) : Calls Try.prog 12 #[] w fun e w' => e = .returned (.bool true) ∧ Below w.heap.size w w' := by
  go_enter Try.func12, Try.ntmps12
  go_wp2_with fail
  refine (new_ok w 5 (by decide) (by decide)).mono ?_
  rintro e w2 ⟨b, m, lb, rfl, h2, hb, hm, hl, hb2⟩
  have HH := Lib.hid h2
  have hbl := h2.b_lt
  have hml := h2.m_lt
  have hll := h2.l_lt
  have hal : Below w2.heap.size w2 (w2.alloc (.cells #[.int .i64 2, .int .i64 1] 39)) := (Below.refl _ _).alloc (Nat.le_refl _) _
  have h3 := h2.below hal
  have hlose := lose_any h3 (by simp) 3
  have hbx : (w2.alloc (.cells #[.int .i64 2, .int .i64 1] 39)).cell? ⟨w2.heap.size, 0, none⟩ = some (.int .i64 2) ∧ (w2.alloc (.cells #[.int .i64 2, .int .i64 1] 39)).cell? ⟨w2.heap.size, 1, none⟩ = some (.int .i64 1) := ⟨cell_of heap_alloc_at rfl, cell_of heap_alloc_at rfl⟩
  have HX := Lib.hid hbx
  have HB := Lib.hid (hb2.trans (hal.mono hb2.size))
  clear h2 h3 hbx hal hb2
  go_wp2_with fail
  refine hlose.mono ?_
  rintro e w4 ⟨⟨v, FL, rfl, _, _⟩, h4, hm4⟩
  have hx4 := boxCells HX.out hm4 (fun hh => by rcases hh with e | e | e <;> omega)
  have hM4 : Mod (fun x => x = b ∨ x = m ∨ x = lb) (w2.alloc (.cells #[.int .i64 2, .int .i64 1] 39)) w4 := hm4
  have HM4 := Lib.hid hM4
  have H4 := Lib.hid h4
  have HX4 := Lib.hid hx4
  clear hlose hm4 hM4 h4 hx4 HX
  go_wp2_with fail
  refine (open_yes H4.out 1 (by decide)).mono ?_
  rintro e w5 ⟨rfl, h5, hm5⟩
  have hx5 := boxCells HX4.out hm5 (by omega)
  obtain ⟨p0, p1⟩ := hx5
  have HX5 := Lib.hid (And.intro p0 p1)
  have HM5 := Lib.hid hm5
  have H5 := Lib.hid h5
  clear hm5 h5 H4 HX4
  go_wp2_with fail
  refine (grant_yes H5.out 2 1 1 7 (.inl rfl)).mono ?_
  rintro e w6 ⟨rfl, ⟨L6, clk6, h6, hl6⟩, hm6⟩
  obtain ⟨q0, q1⟩ := boxCells HX5.out hm6 (by omega)
  have HX6 := Lib.hid (And.intro q0 q1)
  have HM6 := Lib.hid hm6
  have H6 := Lib.hid h6
  clear hm6 h6 H5 HX5 p0 p1
  have hmode := mode_in H6.out 2 1
  have hG : ((putG (fun _ => none) ((2 : Int), (1 : Int)) (some (grantO (fun _ => none) (2, 1) 1 7)) (2, 1)).getD ⟨0, 0, false⟩) = ⟨1, 7, false⟩ := rfl
  rw [hG] at hmode
  have HG := Lib.hid hG
  have HMO := Lib.hid hmode
  clear hG hmode hl6
  go_wp2_with fail
  refine HMO.out.mono ?_
  rintro e w7 ⟨rfl, hb7⟩
  have h7 := H6.out.below hb7
  have hv := version_any h7 2 1
  rw [HG.out] at hv
  have HV := Lib.hid hv
  have hx7 := boxCells HX6.out (Mod.of_below hb7) (Nat.not_le.2 (World.block_lt_of_cell? w6 _ q0))
  obtain ⟨r0, r1⟩ := hx7
  have H7 := Lib.hid h7
  have HB7 := Lib.hid hb7
  clear h7 hv q0 q1 hb7 HMO
  go_wp2_with fail
  refine HV.out.mono ?_
  rintro e w8 ⟨rfl, hb8⟩
  have H8 := Lib.hid (H7.out.below hb8)
  have HB8 := Lib.hid hb8
  clear hb8 r0 r1 HV
  go_wp2_with fail
  refine (session_any H8.out).mono ?_
  rintro e w9 ⟨rfl, rfl⟩
  go_wp2
  go_ret
  have hs3 := HB.out.size
  have k4 := HM4.out.below (B := w.heap.size) hs3 (fun x hx hh => by rcases hh with e | e | e <;> omega)
  have k5 := HM5.out.below (B := w.heap.size) (Nat.le_trans hs3 HM4.out.size) (fun x hx hh => by omega)
  have k6 := HM6.out.below (B := w.heap.size) (Nat.le_trans hs3 (Nat.le_trans HM4.out.size HM5.out.size)) (fun x hx hh => by omega)
  have j6 := ((HB.out.trans k4).trans k5).trans k6
  have j7 := j6.trans (HB7.out.mono j6.size)
  exact ⟨rfl, j7.trans (HB8.out.mono j7.size)⟩
end Go.Proofs.Ythckjciblngaaaa
