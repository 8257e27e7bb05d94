/- does walked: what Claim tells, at once claimed. -/
import Derived.Test.YthckjciblngaaaaVc
namespace Go.Proofs.Ythckjciblngaaaa
open Go.RowKit Go.Tn Go.Maps Go.Sort Go.Shelf

/-- What Claim tells. -/
def nextR (ph : Int) (G : Gs) (FL : List Fi) : Option Fi := if ph = 1 then claimR G FL else none
theorem p_next {w : World} {b n : Nat} {S : Nat → Prop} {ph bo : Int} {G : Gs} (h : HS w b S ph bo G n) (hn : n ≤ 500) {FL : List Fi} (hFL : Fils G FL) : Calls Try.prog 8 #[.pointer (some ⟨b, 0, none⟩)] w fun e w' => (match nextR ph G FL with
    | some f => ∃ md : Int, e = .returned (.tuple #[.agg #[.int .i64 f.1, .int .i64 f.2], .int .i64 md, .bool true])
    | none => e = .returned (.tuple #[.agg #[.int .i64 0, .int .i64 0], .int .i64 0, .bool false])) ∧ Below w.heap.size w w' := by
  refine (p_claim h hn hFL).mono ?_
  rintro e w' ⟨he, hb⟩
  refine ⟨?_, hb⟩
  unfold nextR
  by_cases hp : ph = 1
  · rw [if_pos hp] at he ⊢
    unfold claimV at he
    cases hc : claimR G FL with
    | none => rw [hc] at he; exact he
    | some f => rw [hc] at he; exact ⟨_, he⟩
  · rw [if_neg hp] at he ⊢
    exact he
section
variable {w : World} {b xb n : Nat} {S T : Nat → Prop} {ph bo : Int} {G : Gs}
set_option maxRecDepth 40000 in
set_option maxHeartbeats 2000000 in
theorem does_11 (h : Both w b xb n S T ph bo G) (hn : n ≤ 400) (md i g v : Int) {FL : List Fi} (hFL : Fils G FL) : Calls Try.prog 9 #[.pointer (some ⟨b, 0, none⟩), .pointer (some ⟨xb, 0, none⟩), .agg #[.int .i64 11, .int .i64 md, .int .i64 i, .int .i64 g, .int .u64 v]] w
    fun e w' => SomeBool e ∧ DDone (fun f => nextR ph G FL = some f) False w b xb (n + 2) S T ph bo G w' := by
  obtain ⟨w1, hw1⟩ : ∃ w1, w.alloc (.cells #[.int .i64 11, .int .i64 md, .int .i64 i, .int .i64 g, .int .u64 v] 41) = w1 := ⟨_, rfl⟩
  have hW : Below w.heap.size w w1 := by rw [← hw1]; exact (Below.refl _ _).alloc (Nat.le_refl _) _
  have hS0 : DBox w.heap.size 11 md i g v w1 := by rw [← hw1]; exact DBox.new
  have hB := h.below hW
  have k0 := hS0.k
  have hlt1 : w.heap.size < w1.heap.size := World.block_lt_of_cell? w1 _ k0
  have HW := Lib.hid hW
  have H1 := Lib.hid hw1
  have H0 := Lib.hid h
  have HD := Lib.hid hS0
  clear h hw1 hW hS0
  go_enter Try.func9, Try.ntmps9
  go_upto_region 1 with (fail)
  rw [H1.out]
  go_upto_region 26 with (fail)
  clear k0
  go_wp2_with fail
  refine (p_next hB.p (by omega) hFL).mono ?_
  rintro e w2 ⟨he, hb2⟩
  have hWf := HW.out.trans (hb2.mono HW.out.size)
  have hD2 : DBox w.heap.size 11 md i g v w2 := HD.out.mod (Mod.of_below hb2) hlt1 (Nat.not_le.2 hlt1)
  have hB2 := hB.below hb2
  have hsz2 : w.heap.size < w2.heap.size := World.block_lt_of_cell? w2 _ hD2.k
  have HB2 := Lib.hid hB2
  cases hx : nextR ph G FL with
  | none =>
    rw [hx] at he
    obtain rfl := he
    have hal : Below w.heap.size w (w2.alloc (.cells #[.int .i64 0, .int .i64 0] 39)) := hWf.alloc (Nat.le_of_lt hsz2) _
    have hfin : DDone (fun f => nextR ph G FL = some f) False w b xb (n + 2) S T ph bo G (w2.alloc (.cells #[.int .i64 0, .int .i64 0] 39)).drew := ⟨ph, bo, G, S, T, (H0.out.below hal.drew).mono (by omega), Tm.refl .., mB hal.drew, fun x hx => .inl hx⟩
    have HF := Lib.hid hfin
    clear hal hfin hD2 hB2 hWf hb2 hB
    go_upto_region 27 with (first
      | ((with_reducible refine wpList_storeA_new (aggF 0 0) ?_ rfl ?_ ?_ ?_); rfl; rfl; rfl; go_frame)
      | fail)
    have hS : True := trivial
    refine wp_region_g (fun _ => True) [(0, 1), (1, 1), (2, 1), (3, 1), (4, 0), (5, 1), (6, 0), (8, 1), (9, 0), (10, 1), (11, 0), (7, 2), (12, 2), (13, 1), (14, 1), (15, 1)] (by kernel_rfl) (by kernel_rfl) (by intro d v c a w h; cases d <;> exact h) ?_
    iterate 3 (refine g_take rfl rfl (fun K hK => ?_); go_simp; refine hK _ ?_; clear hK K)
    iterate 11 (refine g_offK rfl rfl (fun _ => hS) (fun K hK => ?_); go_simp; refine hK _ ?_; clear hK K)
    iterate 2 (refine g_take rfl rfl (fun K hK => ?_); go_simp; refine hK _ ?_; clear hK K)
    refine g_nil ?_
    go_wp2
    go_ret
    exact ⟨⟨_, rfl⟩, HF.out⟩
  | some f =>
    rw [hx] at he
    obtain ⟨fi, fg⟩ := f
    obtain ⟨md2, rfl⟩ := he
    obtain ⟨w3, hw3⟩ : ∃ w3, w2.alloc (.cells #[.int .i64 fi, .int .i64 fg] 39) = w3 := ⟨_, rfl⟩
    have hb3 : Below w2.heap.size w2 w3 := by rw [← hw3]; exact (Below.refl _ _).alloc (Nat.le_refl _) _
    have hL : Lies w3 w2.heap.size 0 #[.int .i64 fi, .int .i64 fg] := by
      rw [← hw3]
      exact fun j hj => by
        match j, hj with
        | 0, _ => exact cell_of heap_alloc_at rfl
        | 1, _ => exact cell_of heap_alloc_at rfl
    have hD3 : DBox w.heap.size 11 md i g v w3 := hD2.mod (Mod.of_below hb3) hsz2 (Nat.not_le.2 hsz2)
    have hsz3 : w2.heap.size < w3.heap.size := World.block_lt_of_cell? w3 ⟨w2.heap.size, 0, none⟩ (by have := hL 0 (show 0 < 2 by omega); exact this)
    have hS : DBox w.heap.size 11 md i g v w3.drew ∧ Lies w3.drew w2.heap.size 0 #[.int .i64 fi, .int .i64 fg] := ⟨hD3.drew, hL⟩
    have HWf := Lib.hid (hWf.trans (hb3.mono hWf.size))
    have hBr := (hB2.below hb3.drew)
    have HX := Lib.hid hx
    have H3 := Lib.hid hw3
    clear hx hw3 hL hD3 hb3 hD2 hB2 hWf hb2 hB
    go_upto_region 27 with (first
      | ((with_reducible refine wpList_storeA_new (aggF fi fg) ?_ rfl ?_ ?_ ?_); rfl; rfl; rfl; go_frame)
      | fail)
    rw [H3.out]
    refine wp_region_g (fun w' => DBox w.heap.size 11 md i g v w' ∧ Lies w' w2.heap.size 0 #[.int .i64 fi, .int .i64 fg]) [(0, 1), (1, 1), (2, 1), (3, 1), (4, 0), (5, 1), (6, 0), (8, 1), (9, 0), (10, 1), (11, 0), (7, 2), (12, 2), (13, 1), (14, 1), (15, 1)] (by kernel_rfl) (by kernel_rfl) (by intro d v c a w h; cases d <;> exact h) ?_
    iterate 4 (refine g_take rfl rfl (fun K hK => ?_); go_simp; refine hK _ ?_; clear hK K)
    refine g_read rfl rfl hS (fun w' h => exec_loadA (aggF _ _) rfl h.2) ?_
    iterate 1 (refine g_take rfl rfl (fun K hK => ?_); go_simp; refine hK _ ?_; clear hK K)
    refine g_read rfl rfl hS (fun w' h => exec_load1 scalar64 rfl h.1.v) ?_
    iterate 1 (refine g_take rfl rfl (fun K hK => ?_); go_simp; refine hK _ ?_; clear hK K)
    refine g_read rfl rfl hS (fun w' h => exec_loadA (aggF _ _) rfl h.2) ?_
    iterate 1 (refine g_take rfl rfl (fun K hK => ?_); go_simp; refine hK _ ?_; clear hK K)
    refine g_read rfl rfl hS (fun w' h => exec_load1 scalar64 rfl h.1.v) ?_
    refine g_show' rfl rfl (fun K hK => ?_)
    go_simp
    refine (p_claimed (A := fun f => nextR ph G FL = some f) (B := False) hBr.p fi fg v HX.out).mono ?_
    rintro e w4 ⟨⟨c4, rfl⟩, hd4⟩
    obtain ⟨ph4, bo4, G4, S4, hB4, hs4, ht4⟩ := hBr.prog hd4 (by omega)
    have hlt3 : w2.heap.size < w3.drew.heap.size := hsz3
    have hS4 : DBox w.heap.size 11 md i g v w4 ∧ Lies w4 w2.heap.size 0 #[.int .i64 fi, .int .i64 fg] := ⟨hS.1.mod hs4.mod (Nat.lt_trans hsz2 hlt3) (H0.out.not_s), fun j hj => (World.cell?_of_block (a := ⟨w2.heap.size, 0 + j, none⟩) (hs4.mod.block w2.heap.size hlt3 HB2.out.not_s)).trans (hS.2 j hj)⟩
    refine hK _ _ hS4 ?_
    clear hK K hd4 hS
    refine g_show' rfl rfl (fun K hK => ?_)
    go_simp
    refine (r_claimed hB4.r (by omega) fi fg v true).mono ?_
    rintro e w5 ⟨⟨c5, rfl⟩, hd5⟩
    obtain ⟨T5, hB5, hs5⟩ := (hB4.mono (Nat.le_succ _)).refd hd5
    have hlt4 : w2.heap.size < w4.heap.size := Nat.lt_of_lt_of_le hlt3 hs4.mod.size
    have hS5 : DBox w.heap.size 11 md i g v w5 ∧ Lies w5 w2.heap.size 0 #[.int .i64 fi, .int .i64 fg] := ⟨hS4.1.mod hs5.mod (Nat.lt_trans hsz2 hlt4) (H0.out.not_t), fun j hj => (World.cell?_of_block (a := ⟨w2.heap.size, 0 + j, none⟩) (hs5.mod.block w2.heap.size hlt4 HB2.out.not_t)).trans (hS4.2 j hj)⟩
    refine hK _ _ hS5 ?_
    clear hK K hd5 hS4
    have hfin := ddone HWf.out hs4 hs5 ht4 hB5
    have HF := Lib.hid hfin
    clear hfin hs4 hs5 ht4 hB5
    iterate 3 (refine g_take rfl rfl (fun K hK => ?_); go_simp; refine hK _ ?_; clear hK K)
    refine g_nil ?_
    go_wp2
    go_ret
    exact ⟨⟨_, rfl⟩, HF.out⟩
end
end Go.Proofs.Ythckjciblngaaaa
