/- AtomNobody, walked. -/
import Derived.Test.YteafnipciofamaaAg
namespace Go.Proofs.Yteafnipciofamaa
open Go.RowKit Go.Tn Go.Tn.Names

set_option maxRecDepth 20000 in
set_option maxHeartbeats 1000000 in
theorem nobody_walk (W : World) (k fi fg di dg : Int) (nm ot : ByteArray) (at_ : Int) (da : ByteArray) (h1 : nm.size ≤ maxLen) (h2 : ot.size ≤ maxLen) (h3 : da.size ≤ maxLen) :
    Calls Try.prog 3 #[.agg #[.int .i64 k, .int .i64 fi, .int .i64 fg, .int .i64 di, .int .i64 dg, .string nm, .string ot, .int .i64 at_, .string da]] W
    fun e W' => e = .returned (.bool true) ∧ Below W.heap.size W W' := by
  have hb : Below W.heap.size W (W.alloc (.cells #[.int .i64 k, .int .i64 fi, .int .i64 fg, .int .i64 di, .int .i64 dg, .string nm, .string ot, .int .i64 at_, .string da] 25)) := (Below.refl _ _).alloc (Nat.le_refl _) _
  have hx : (W.alloc (.cells #[.int .i64 k, .int .i64 fi, .int .i64 fg, .int .i64 di, .int .i64 dg, .string nm, .string ot, .int .i64 at_, .string da] 25)).heap[W.heap.size]? = some (.cells #[.int .i64 k, .int .i64 fi, .int .i64 fg, .int .i64 di, .int .i64 dg, .string nm, .string ot, .int .i64 at_, .string da] 25) := heap_alloc_at
  have hz : (W.alloc (.cells #[.int .i64 k, .int .i64 fi, .int .i64 fg, .int .i64 di, .int .i64 dg, .string nm, .string ot, .int .i64 at_, .string da] 25)).heap.size = W.heap.size + 1 := by simp
  have hsh := shortC_any (W.alloc (.cells #[.int .i64 k, .int .i64 fi, .int .i64 fg, .int .i64 di, .int .i64 dg, .string nm, .string ot, .int .i64 at_, .string da] 25)) ⟨k, fi, fg, di, dg, nm, ot, at_, da⟩ h1 h2 h3
  clear h1 h2 h3
  go_enter Try.func3, Try.ntmps3
  go_wp2_with fail
  refine hsh.mono ?_
  rintro e w2 ⟨⟨k', fi', fg', di', dg', nm', ot', at', da'⟩, rfl, hb2⟩
  unfold CV.cs
  simp only
  have hx2 := (hb2.block W.heap.size (by omega)).trans hx
  have hb02 := hb.trans (hb2.mono hb.size)
  have hz2 := hb2.size
  rw [hz] at hz2
  clear hsh hx hb hb2 hz
  have HX2 := Lib.hid hx2
  have HB2 := Lib.hid hb02
  have f0 : ∀ o, w2.frozen? ⟨W.heap.size, o, none⟩ = false := fun o => free_of hx2
  have c0 : w2.cell? ⟨W.heap.size, 0, none⟩ = _ := cell_of hx2 rfl
  have c1 : w2.cell? ⟨W.heap.size, 1, none⟩ = _ := cell_of hx2 rfl
  have c2 : w2.cell? ⟨W.heap.size, 2, none⟩ = _ := cell_of hx2 rfl
  have c3 : w2.cell? ⟨W.heap.size, 3, none⟩ = _ := cell_of hx2 rfl
  have c4 : w2.cell? ⟨W.heap.size, 4, none⟩ = _ := cell_of hx2 rfl
  have c5 : w2.cell? ⟨W.heap.size, 5, none⟩ = _ := cell_of hx2 rfl
  have c6 : w2.cell? ⟨W.heap.size, 6, none⟩ = _ := cell_of hx2 rfl
  have c7 : w2.cell? ⟨W.heap.size, 7, none⟩ = _ := cell_of hx2 rfl
  have c8 : w2.cell? ⟨W.heap.size, 8, none⟩ = _ := cell_of hx2 rfl
  clear hx2 hb02
  --LOOP
  have s0 : (w2.setCell ⟨W.heap.size, 0, none⟩ (.int .i64 k')).heap[W.heap.size]? = some (.cells #[.int .i64 k', .int .i64 fi, .int .i64 fg, .int .i64 di, .int .i64 dg, .string nm, .string ot, .int .i64 at_, .string da] 25 (0, 0)) := heap_setCell_at HX2.out
  have s1 : ((w2.setCell ⟨W.heap.size, 0, none⟩ (.int .i64 k')).setCell ⟨W.heap.size, 1, none⟩ (.int .i64 fi')).heap[W.heap.size]? = some (.cells #[.int .i64 k', .int .i64 fi', .int .i64 fg, .int .i64 di, .int .i64 dg, .string nm, .string ot, .int .i64 at_, .string da] 25 (0, 0)) := heap_setCell_at s0
  have s2 : (((w2.setCell ⟨W.heap.size, 0, none⟩ (.int .i64 k')).setCell ⟨W.heap.size, 1, none⟩ (.int .i64 fi')).setCell ⟨W.heap.size, 2, none⟩ (.int .i64 fg')).heap[W.heap.size]? = some (.cells #[.int .i64 k', .int .i64 fi', .int .i64 fg', .int .i64 di, .int .i64 dg, .string nm, .string ot, .int .i64 at_, .string da] 25 (0, 0)) := heap_setCell_at s1
  have s3 : ((((w2.setCell ⟨W.heap.size, 0, none⟩ (.int .i64 k')).setCell ⟨W.heap.size, 1, none⟩ (.int .i64 fi')).setCell ⟨W.heap.size, 2, none⟩ (.int .i64 fg')).setCell ⟨W.heap.size, 3, none⟩ (.int .i64 di')).heap[W.heap.size]? = some (.cells #[.int .i64 k', .int .i64 fi', .int .i64 fg', .int .i64 di', .int .i64 dg, .string nm, .string ot, .int .i64 at_, .string da] 25 (0, 0)) := heap_setCell_at s2
  have s4 : (((((w2.setCell ⟨W.heap.size, 0, none⟩ (.int .i64 k')).setCell ⟨W.heap.size, 1, none⟩ (.int .i64 fi')).setCell ⟨W.heap.size, 2, none⟩ (.int .i64 fg')).setCell ⟨W.heap.size, 3, none⟩ (.int .i64 di')).setCell ⟨W.heap.size, 4, none⟩ (.int .i64 dg')).heap[W.heap.size]? = some (.cells #[.int .i64 k', .int .i64 fi', .int .i64 fg', .int .i64 di', .int .i64 dg', .string nm, .string ot, .int .i64 at_, .string da] 25 (0, 0)) := heap_setCell_at s3
  have s5 : ((((((w2.setCell ⟨W.heap.size, 0, none⟩ (.int .i64 k')).setCell ⟨W.heap.size, 1, none⟩ (.int .i64 fi')).setCell ⟨W.heap.size, 2, none⟩ (.int .i64 fg')).setCell ⟨W.heap.size, 3, none⟩ (.int .i64 di')).setCell ⟨W.heap.size, 4, none⟩ (.int .i64 dg')).setCell ⟨W.heap.size, 5, none⟩ (.string nm')).heap[W.heap.size]? = some (.cells #[.int .i64 k', .int .i64 fi', .int .i64 fg', .int .i64 di', .int .i64 dg', .string nm', .string ot, .int .i64 at_, .string da] 25 (0, 0)) := heap_setCell_at s4
  have s6 : (((((((w2.setCell ⟨W.heap.size, 0, none⟩ (.int .i64 k')).setCell ⟨W.heap.size, 1, none⟩ (.int .i64 fi')).setCell ⟨W.heap.size, 2, none⟩ (.int .i64 fg')).setCell ⟨W.heap.size, 3, none⟩ (.int .i64 di')).setCell ⟨W.heap.size, 4, none⟩ (.int .i64 dg')).setCell ⟨W.heap.size, 5, none⟩ (.string nm')).setCell ⟨W.heap.size, 6, none⟩ (.string ot')).heap[W.heap.size]? = some (.cells #[.int .i64 k', .int .i64 fi', .int .i64 fg', .int .i64 di', .int .i64 dg', .string nm', .string ot', .int .i64 at_, .string da] 25 (0, 0)) := heap_setCell_at s5
  have s7 : ((((((((w2.setCell ⟨W.heap.size, 0, none⟩ (.int .i64 k')).setCell ⟨W.heap.size, 1, none⟩ (.int .i64 fi')).setCell ⟨W.heap.size, 2, none⟩ (.int .i64 fg')).setCell ⟨W.heap.size, 3, none⟩ (.int .i64 di')).setCell ⟨W.heap.size, 4, none⟩ (.int .i64 dg')).setCell ⟨W.heap.size, 5, none⟩ (.string nm')).setCell ⟨W.heap.size, 6, none⟩ (.string ot')).setCell ⟨W.heap.size, 7, none⟩ (.int .i64 at')).heap[W.heap.size]? = some (.cells #[.int .i64 k', .int .i64 fi', .int .i64 fg', .int .i64 di', .int .i64 dg', .string nm', .string ot', .int .i64 at', .string da] 25 (0, 0)) := heap_setCell_at s6
  have s8 : (((((((((w2.setCell ⟨W.heap.size, 0, none⟩ (.int .i64 k')).setCell ⟨W.heap.size, 1, none⟩ (.int .i64 fi')).setCell ⟨W.heap.size, 2, none⟩ (.int .i64 fg')).setCell ⟨W.heap.size, 3, none⟩ (.int .i64 di')).setCell ⟨W.heap.size, 4, none⟩ (.int .i64 dg')).setCell ⟨W.heap.size, 5, none⟩ (.string nm')).setCell ⟨W.heap.size, 6, none⟩ (.string ot')).setCell ⟨W.heap.size, 7, none⟩ (.int .i64 at')).setCell ⟨W.heap.size, 8, none⟩ (.string da')).heap[W.heap.size]? = some (.cells #[.int .i64 k', .int .i64 fi', .int .i64 fg', .int .i64 di', .int .i64 dg', .string nm', .string ot', .int .i64 at', .string da'] 25 (0, 0)) := heap_setCell_at s7
  have HS := Lib.hid s8
  clear s0 s1 s2 s3 s4 s5 s6 s7 s8
  go_wp2_with fail
  go_loopw [3] (fun jv wi => ∃ j : Nat, j ≤ 2 ∧ jv = .int .i64 j ∧ Below W.heap.size W wi ∧ Lies wi W.heap.size 0 #[.int .i64 k', .int .i64 fi', .int .i64 fg', .int .i64 di', .int .i64 dg', .string nm', .string ot', .int .i64 at', .string da']) (fun jv _ => 2 - (intOf jv).toNat)
  case atStart =>
    refine ⟨0, by omega, rfl, ?_, ?_⟩
    · have m : ∀ {w : World} (o : Nat) (v : Value), Below W.heap.size W w → Below W.heap.size W (w.setCell ⟨W.heap.size, o, none⟩ v) := fun {w} o v h => h.setCell (p := ⟨W.heap.size, o, none⟩) (Nat.le_refl W.heap.size) v
      exact m _ _ (m _ _ (m _ _ (m _ _ (m _ _ (m _ _ (m _ _ (m _ _ (m _ _ HB2.out))))))))
    · exact lies_of HS.out
  case round =>
    clear c0 c1 c2 c3 c4 c5 c6 c7 c8 f0
    obtain ⟨j, hj, rfl, hB4, hl4⟩ := hrel
    have hlt4 := World.block_lt_of_cell? wr _ (hl4 0 (by simp))
    by_cases hj0 : j = 0
    · subst hj0
      have hN4 : Nob wr (.pointer none) := .inl rfl
      have e0 := hl4 1 (by simp)
      have e1 := hl4 2 (by simp)
      have e7 := hl4 7 (by simp)
      go_wp2_with fail
      refine (read_no _ _ hN4 fi' fg' at').mono ?_
      rintro e w5 ⟨rfl, hb5⟩
      have hN5 := hN4.below hb5
      have hl5 := hl4.below' hb5 hlt4
      have hlt5 := Nat.lt_of_lt_of_le hlt4 hb5.size
      have hB5 := hB4.trans (hb5.mono hB4.size)
      clear hb5 hl4 hN4 hlt4 hB4 e0 e1 e7
      have e0 := hl5 1 (by simp)
      have e1 := hl5 2 (by simp)
      have e7 := hl5 7 (by simp)
      go_wp2_with (first
        | ((with_reducible refine wpList_execW (exec_loadA (aggK _ _ _ _ _ _ _ _ _) ?_ hl5) ?_ ?_); rfl; rfl; go_frame)
        | fail)
      refine (must_no _ _ hN5 ⟨k', fi', fg', di', dg', nm', ot', at', da'⟩).mono ?_
      rintro e w6 ⟨rfl, hb6⟩
      have hN6 := hN5.below hb6
      have hl6 := hl5.below' hb6 hlt5
      have hlt6 := Nat.lt_of_lt_of_le hlt5 hb6.size
      have hB6 := hB5.trans (hb6.mono hB5.size)
      clear hb6 hl5 hN5 hlt5 hB5 e0 e1 e7
      have e0 := hl6 1 (by simp)
      have e1 := hl6 2 (by simp)
      have e7 := hl6 7 (by simp)
      go_wp2_with (first
        | ((with_reducible refine wpList_execW (exec_loadA (aggK _ _ _ _ _ _ _ _ _) ?_ hl6) ?_ ?_); rfl; rfl; go_frame)
        | fail)
      refine (do_no _ _ hN6 ⟨k', fi', fg', di', dg', nm', ot', at', da'⟩).mono ?_
      rintro e w7 ⟨rfl, hb7⟩
      have hN7 := hN6.below hb7
      have hl7 := hl6.below' hb7 hlt6
      have hlt7 := Nat.lt_of_lt_of_le hlt6 hb7.size
      have hB7 := hB6.trans (hb7.mono hB6.size)
      clear hb7 hl6 hN6 hlt6 hB6 e0 e1 e7
      have e0 := hl7 1 (by simp)
      have e1 := hl7 2 (by simp)
      have e7 := hl7 7 (by simp)
      go_wp2_with (first
        | ((with_reducible refine wpList_execW (exec_loadA (aggK _ _ _ _ _ _ _ _ _) ?_ hl7) ?_ ?_); rfl; rfl; go_frame)
        | fail)
      refine (write_no _ _ hN7 fi' fg' at' ⟨#[]⟩).mono ?_
      rintro e w8 ⟨rfl, hb8⟩
      have hN8 := hN7.below hb8
      have hl8 := hl7.below' hb8 hlt7
      have hlt8 := Nat.lt_of_lt_of_le hlt7 hb8.size
      have hB8 := hB7.trans (hb8.mono hB7.size)
      clear hb8 hl7 hN7 hlt7 hB7 e0 e1 e7
      have e0 := hl8 1 (by simp)
      have e1 := hl8 2 (by simp)
      have e7 := hl8 7 (by simp)
      go_wp2_with (first
        | ((with_reducible refine wpList_execW (exec_loadA (aggK _ _ _ _ _ _ _ _ _) ?_ hl8) ?_ ?_); rfl; rfl; go_frame)
        | fail)
      refine (copy_no _ _ hN8).mono ?_
      rintro e w9 ⟨rfl, hw⟩
      obtain rfl := hw.symm
      clear hw
      go_wp2_with (first
        | ((with_reducible refine wpList_execW (exec_loadA (aggK _ _ _ _ _ _ _ _ _) ?_ hl8) ?_ ?_); rfl; rfl; go_frame)
        | fail)
      refine (len_no _ _ hN8).mono ?_
      rintro e w9 ⟨rfl, hw⟩
      obtain rfl := hw.symm
      clear hw
      have HB := Lib.hid hB8
      have HL := Lib.hid hl8
      clear hB8 hl8 hN8 hlt8 e0 e1 e7
      go_wp2
      go_roundw
      case rel => exact ⟨1, by omega, rfl, HB.out, HL.out⟩
      case measure => simp [intOf]
    · by_cases hj1 : j = 1
      · subst hj1
        have ha : Below wr.heap.size wr (wr.alloc (.cells #[.map none, .map none] 31)) := (Below.refl _ _).alloc (Nat.le_refl _) _
        have hN4 : Nob (wr.alloc (.cells #[.map none, .map none] 31)) (.pointer (some ⟨wr.heap.size, 0, none⟩)) := .inr ⟨wr.heap.size, rfl, cell_of heap_alloc_at rfl⟩
        replace hl4 := hl4.below' ha hlt4
        replace hlt4 := Nat.lt_of_lt_of_le hlt4 ha.size
        replace hB4 := hB4.trans (ha.mono hB4.size)
        clear ha
        have e0 := hl4 1 (by simp)
        have e1 := hl4 2 (by simp)
        have e7 := hl4 7 (by simp)
        go_wp2_with fail
        refine (read_no _ _ hN4 fi' fg' at').mono ?_
        rintro e w5 ⟨rfl, hb5⟩
        have hN5 := hN4.below hb5
        have hl5 := hl4.below' hb5 hlt4
        have hlt5 := Nat.lt_of_lt_of_le hlt4 hb5.size
        have hB5 := hB4.trans (hb5.mono hB4.size)
        clear hb5 hl4 hN4 hlt4 hB4 e0 e1 e7
        have e0 := hl5 1 (by simp)
        have e1 := hl5 2 (by simp)
        have e7 := hl5 7 (by simp)
        go_wp2_with (first
          | ((with_reducible refine wpList_execW (exec_loadA (aggK _ _ _ _ _ _ _ _ _) ?_ hl5) ?_ ?_); rfl; rfl; go_frame)
          | fail)
        refine (must_no _ _ hN5 ⟨k', fi', fg', di', dg', nm', ot', at', da'⟩).mono ?_
        rintro e w6 ⟨rfl, hb6⟩
        have hN6 := hN5.below hb6
        have hl6 := hl5.below' hb6 hlt5
        have hlt6 := Nat.lt_of_lt_of_le hlt5 hb6.size
        have hB6 := hB5.trans (hb6.mono hB5.size)
        clear hb6 hl5 hN5 hlt5 hB5 e0 e1 e7
        have e0 := hl6 1 (by simp)
        have e1 := hl6 2 (by simp)
        have e7 := hl6 7 (by simp)
        go_wp2_with (first
          | ((with_reducible refine wpList_execW (exec_loadA (aggK _ _ _ _ _ _ _ _ _) ?_ hl6) ?_ ?_); rfl; rfl; go_frame)
          | fail)
        refine (do_no _ _ hN6 ⟨k', fi', fg', di', dg', nm', ot', at', da'⟩).mono ?_
        rintro e w7 ⟨rfl, hb7⟩
        have hN7 := hN6.below hb7
        have hl7 := hl6.below' hb7 hlt6
        have hlt7 := Nat.lt_of_lt_of_le hlt6 hb7.size
        have hB7 := hB6.trans (hb7.mono hB6.size)
        clear hb7 hl6 hN6 hlt6 hB6 e0 e1 e7
        have e0 := hl7 1 (by simp)
        have e1 := hl7 2 (by simp)
        have e7 := hl7 7 (by simp)
        go_wp2_with (first
          | ((with_reducible refine wpList_execW (exec_loadA (aggK _ _ _ _ _ _ _ _ _) ?_ hl7) ?_ ?_); rfl; rfl; go_frame)
          | fail)
        refine (write_no _ _ hN7 fi' fg' at' ⟨#[]⟩).mono ?_
        rintro e w8 ⟨rfl, hb8⟩
        have hN8 := hN7.below hb8
        have hl8 := hl7.below' hb8 hlt7
        have hlt8 := Nat.lt_of_lt_of_le hlt7 hb8.size
        have hB8 := hB7.trans (hb8.mono hB7.size)
        clear hb8 hl7 hN7 hlt7 hB7 e0 e1 e7
        have e0 := hl8 1 (by simp)
        have e1 := hl8 2 (by simp)
        have e7 := hl8 7 (by simp)
        go_wp2_with (first
          | ((with_reducible refine wpList_execW (exec_loadA (aggK _ _ _ _ _ _ _ _ _) ?_ hl8) ?_ ?_); rfl; rfl; go_frame)
          | fail)
        refine (copy_no _ _ hN8).mono ?_
        rintro e w9 ⟨rfl, hw⟩
        obtain rfl := hw.symm
        clear hw
        go_wp2_with (first
          | ((with_reducible refine wpList_execW (exec_loadA (aggK _ _ _ _ _ _ _ _ _) ?_ hl8) ?_ ?_); rfl; rfl; go_frame)
          | fail)
        refine (len_no _ _ hN8).mono ?_
        rintro e w9 ⟨rfl, hw⟩
        obtain rfl := hw.symm
        clear hw
        have HB := Lib.hid hB8
        have HL := Lib.hid hl8
        clear hB8 hl8 hN8 hlt8 e0 e1 e7
        go_wp2
        go_roundw
        case rel => exact ⟨2, by omega, rfl, HB.out, HL.out⟩
        case measure => simp [intOf]
      · obtain rfl : j = 2 := by omega
        have HB := Lib.hid hB4
        clear hl4 hlt4 hB4
        go_wp2_with fail
        refine (lives_any wr).mono ?_
        rintro e w5 ⟨rfl, hb5⟩
        go_wp2
        go_ret
        exact ⟨rfl, HB.out.trans (hb5.mono HB.out.size)⟩
end Go.Proofs.Yteafnipciofamaa
