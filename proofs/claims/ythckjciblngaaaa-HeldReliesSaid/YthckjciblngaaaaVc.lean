/- does walked: an answer of the tenant, what Claim tells, any other kind. -/
import Derived.Test.YthckjciblngaaaaVb
namespace Go.Proofs.Ythckjciblngaaaa
open Go.RowKit Go.Tn Go.Maps Go.Sort Go.Shelf

/-- The document's lease, as one reads it. -/
def Lea (xb xl : Nat) (w : World) : Prop := w.cell? ⟨xb, 5, none⟩ = some (.pointer (some ⟨xl, 0, none⟩))
theorem Lea.mod {w w' : World} {xb xl : Nat} {S : Nat → Prop} (h : Lea xb xl w) (hm : Mod S w w') (hS : ¬ S xb) : Lea xb xl w' :=
  (World.cell?_of_block (a := ⟨xb, 5, none⟩) (hm.block xb (World.block_lt_of_cell? w _ h) hS)).trans h
section
variable {w : World} {b xb n : Nat} {S T : Nat → Prop} {ph bo : Int} {G : Gs}
set_option maxRecDepth 40000 in
set_option maxHeartbeats 2000000 in
theorem does_10 (h : Both w b xb n S T ph bo G) (hn : n ≤ 400) (md i g v : Int) (hv : 0 ≤ v) : Calls Try.prog 9 #[.pointer (some ⟨b, 0, none⟩), .pointer (some ⟨xb, 0, none⟩), .agg #[.int .i64 10, .int .i64 md, .int .i64 i, .int .i64 g, .int .u64 v]] w
    fun e w' => SomeBool e ∧ DDone (fun _ => False) False w b xb (n + 2) S T ph bo G w' := by
  obtain ⟨w1, hw1⟩ : ∃ w1, w.alloc (.cells #[.int .i64 10, .int .i64 md, .int .i64 i, .int .i64 g, .int .u64 v] 41) = w1 := ⟨_, rfl⟩
  have hW : Below w.heap.size w w1 := by rw [← hw1]; exact (Below.refl _ _).alloc (Nat.le_refl _) _
  have hS0 : DBox w.heap.size 10 md i g v w1 := by rw [← hw1]; exact DBox.new
  have hB := h.below hW.drew
  have k0 := hS0.k
  have hlt1 : w.heap.size < w1.drew.heap.size := World.block_lt_of_cell? w1 _ k0
  obtain ⟨xl, hTx, hl0, hack⟩ := hB.r.lease
  have hL : Lea xb xl w1.drew := hl0
  clear hl0
  have HL := Lib.hid hack
  have HTX := Lib.hid hTx
  have HSB := Lib.hid (fun e : S xb => hB.d xb e hTx)
  have hS : DBox w.heap.size 10 md i g v w1.drew ∧ Lea xb xl w1.drew := ⟨hS0.drew, hL⟩
  have HW := Lib.hid hW
  have H1 := Lib.hid hw1
  have H0 := Lib.hid h
  clear h hw1 hW hS0 hL hack hTx
  go_enter Try.func9, Try.ntmps9
  go_upto_region 1 with (fail)
  rw [H1.out]
  go_upto_region 24 with (fail)
  clear k0
  refine wp_region_x (fun w' => DBox w.heap.size 10 md i g v w' ∧ Lea xb xl w') [(0, 1), (1, 1), (2, 0), (4, 1), (5, 1), (6, 1), (7, 0), (8, 1), (9, 0), (3, 2), (10, 2), (11, 1), (12, 1)] (by kernel_rfl) (by kernel_rfl) (by intro d v c a w h; cases d <;> exact h) ?_
  iterate 2 (refine x_take rfl (fun K hK => ?_); go_simp; refine hK _ ?_; clear hK K)
  refine x_read rfl hS (fun w' h => exec_load1 scalar64 rfl h.1.v) ?_
  iterate 3 (refine x_take rfl (fun K hK => ?_); go_simp; refine hK _ ?_; clear hK K)
  refine x_read rfl hS (fun w' h => exec_load1 ⟨⟨_, Try.underlying28, rfl⟩⟩ rfl h.2) ?_
  iterate 1 (refine x_take rfl (fun K hK => ?_); go_simp; refine hK _ ?_; clear hK K)
  refine x_read rfl hS (fun w' h => exec_load1 scalar64 rfl h.1.v) ?_
  refine x_show' rfl (fun K hK => ?_)
  go_simp
  refine (p_ack (A := fun _ => False) (B := False) hB.p v hv).mono ?_
  rintro e w2 ⟨⟨c2, rfl⟩, hd2⟩
  obtain ⟨ph2, bo2, G2, S2, hB2, hs2, ht2⟩ := hB.prog hd2 (by omega)
  have hS2 := hS.1.mod hs2.mod hlt1 (H0.out.not_s)
  have hL2 := hS.2.mod hs2.mod HSB.out
  refine hK _ _ ⟨hS2, hL2⟩ ?_
  clear hK K hd2 hS
  refine x_show' rfl (fun K hK => ?_)
  go_simp
  refine (HL.out _ _ _ hB2.r hL2 (by omega) v).mono ?_
  rintro e w3 ⟨⟨c3, rfl⟩, hd3, hL3⟩
  obtain ⟨T3, hB3, hs3⟩ := (hB2.mono (Nat.le_succ _)).refd hd3
  have hS3 := hS2.mod hs3.mod (Nat.lt_of_lt_of_le hlt1 hs2.mod.size) (H0.out.not_t)
  refine hK _ _ ⟨hS3, hL3⟩ ?_
  clear hK K hd3 hS2 hS3 hL2 hL3
  iterate 2 (refine x_take rfl (fun K hK => ?_); go_simp; refine hK _ ?_; clear hK K)
  refine x_nil ?_
  have hfin := ddone HW.out hs2 hs3 ht2 hB3
  have HF := Lib.hid hfin
  clear hfin hs2 hs3 ht2 hB3
  go_wp2
  go_ret
  exact ⟨⟨_, rfl⟩, HF.out⟩
set_option maxRecDepth 40000 in
set_option maxHeartbeats 2000000 in
theorem does_other (h : Both w b xb n S T ph bo G) (kd md i g v : Int) (hk : ¬ (0 ≤ kd ∧ kd ≤ 11)) : Calls Try.prog 9 #[.pointer (some ⟨b, 0, none⟩), .pointer (some ⟨xb, 0, none⟩), .agg #[.int .i64 kd, .int .i64 md, .int .i64 i, .int .i64 g, .int .u64 v]] w
    fun e w' => SomeBool e ∧ DDone (fun _ => False) False w b xb n S T ph bo G w' := by
  obtain ⟨w1, hw1⟩ : ∃ w1, w.alloc (.cells #[.int .i64 kd, .int .i64 md, .int .i64 i, .int .i64 g, .int .u64 v] 41) = w1 := ⟨_, rfl⟩
  have hW : Below w.heap.size w w1 := by rw [← hw1]; exact (Below.refl _ _).alloc (Nat.le_refl _) _
  have hS0 : DBox w.heap.size kd md i g v w1 := by rw [← hw1]; exact DBox.new
  have k0 := hS0.k
  have hfin : DDone (fun _ => False) False w b xb n S T ph bo G w1 := ⟨ph, bo, G, S, T, h.below hW, Tm.refl .., mB hW, fun x hx => .inl hx⟩
  have HF := Lib.hid hfin
  have H1 := Lib.hid hw1
  have n0 : ¬ kd = 0 := by omega
  have n1 : ¬ kd = 1 := by omega
  have n2 : ¬ kd = 2 := by omega
  have n3 : ¬ kd = 3 := by omega
  have n4 : ¬ kd = 4 := by omega
  have n5 : ¬ kd = 5 := by omega
  have n6 : ¬ kd = 6 := by omega
  have n7 : ¬ kd = 7 := by omega
  have n8 : ¬ kd = 8 := by omega
  have n9 : ¬ kd = 9 := by omega
  have n10 : ¬ kd = 10 := by omega
  have n11 : ¬ kd = 11 := by omega
  clear h hw1 hW hS0 hfin
  go_enter Try.func9, Try.ntmps9
  go_upto_region 1 with (fail)
  rw [H1.out]
  go_wp2_with fail
  go_ret
  exact ⟨⟨_, rfl⟩, HF.out⟩
end
end Go.Proofs.Ythckjciblngaaaa
