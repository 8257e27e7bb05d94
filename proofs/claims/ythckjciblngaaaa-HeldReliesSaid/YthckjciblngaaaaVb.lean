/- does walked: a theorem a kind of call. -/
import Derived.Test.YthckjciblngaaaaVa
namespace Go.Proofs.Ythckjciblngaaaa
open Go.RowKit Go.Tn Go.Maps Go.Sort Go.Shelf

/-- Both sides, apart. -/
structure Both (w : World) (b xb n : Nat) (S T : Nat → Prop) (ph bo : Int) (G : Gs) : Prop where
  p : HS w b S ph bo G n
  r : RIs w xb T n
  d : ∀ x, S x → ¬ T x
/-- Some truth. -/
def SomeBool (e : Ending) : Prop := ∃ c : Bool, e = .returned (.bool c)
/-- Behind a call of both. -/
def DDone (A : Fi → Prop) (B : Prop) (w : World) (b xb n : Nat) (S T : Nat → Prop) (ph bo : Int) (G : Gs) (w' : World) : Prop := ∃ ph' bo' G' S' T', Both w' b xb n S' T' ph' bo' G' ∧ Tm A B ph bo G ph' bo' G' ∧ Mod (fun x => S x ∨ T x) w w' ∧ ∀ x, S' x ∨ T' x → (S x ∨ T x) ∨ w.heap.size ≤ x
section
variable {w w' : World} {b xb n n' : Nat} {S T : Nat → Prop} {ph bo : Int} {G : Gs} {A : Fi → Prop} {B : Prop}
theorem Both.below (h : Both w b xb n S T ph bo G) (hb : Below w.heap.size w w') : Both w' b xb n S T ph bo G := ⟨h.p.below hb, h.r.below hb, h.d⟩
theorem Both.mono (h : Both w b xb n S T ph bo G) (hn : n ≤ n') : Both w b xb n' S T ph bo G := ⟨h.p.mono hn, h.r.mono hn, h.d⟩
theorem Both.not_s (h : Both w b xb n S T ph bo G) : ¬ S w.heap.size := fun e => Nat.lt_irrefl _ (h.p.lt _ e)
theorem Both.not_t (h : Both w b xb n S T ph bo G) : ¬ T w.heap.size := fun e => Nat.lt_irrefl _ (h.r.lt _ e)
theorem Both.prog (h : Both w b xb n S T ph bo G) (hp : PDone A B w b n' S ph bo G w') (hn : n ≤ n') : ∃ ph' bo' G' S', Both w' b xb n' S' T ph' bo' G' ∧ Step w w' S S' ∧ Tm A B ph bo G ph' bo' G' := by
  obtain ⟨ph', bo', G', S', h1, h2, h3⟩ := hp
  refine ⟨ph', bo', G', S', ⟨h1, (h.r.mod h2.mod fun x hx hs => h.d x hs hx).mono hn, fun x hx ht => ?_⟩, h2, h3⟩
  rcases h2.fresh x hx with e | e
  · exact h.d x e ht
  · exact absurd (h.r.lt x ht) (Nat.not_lt.2 e)
theorem Both.refd (h : Both w b xb n S T ph bo G) (hr : RDone w xb n T w') : ∃ T', Both w' b xb n S T' ph bo G ∧ Step w w' T T' := by
  obtain ⟨T', h1, h2⟩ := hr
  refine ⟨T', ⟨h.p.mod h2.mod h.d, h1, fun x hx ht => ?_⟩, h2⟩
  rcases h2.fresh x ht with e | e
  · exact h.d x hx e
  · exact absurd (h.p.lt x hx) (Nat.not_lt.2 e)
theorem ddone {w1 w2 w3 : World} {S2 T3 : Nat → Prop} {ph2 bo2 : Int} {G2 : Gs} (hW : Below w.heap.size w w1) (hs2 : Step w1.drew w2 S S2) (hs3 : Step w2 w3 T T3) (ht : Tm A B ph bo G ph2 bo2 G2) (hB : Both w3 b xb n S2 T3 ph2 bo2 G2) : DDone A B w b xb n S T ph bo G w3 := by
  have hsz : w.heap.size ≤ w1.drew.heap.size := hW.size
  refine ⟨ph2, bo2, G2, S2, T3, hB, ht, ((mB hW.drew).trans (hs2.mod.mono fun x _ h => .inl h) (fun _ h => h) (fun _ _ h => h)).trans (hs3.mod.mono fun x _ h => .inr h) (fun _ h => h) (fun _ _ h => h), fun x hx => ?_⟩
  rcases hx with hx | hx
  · rcases hs2.fresh x hx with e | e
    · exact .inl (.inl e)
    · exact .inr (Nat.le_trans hsz e)
  · rcases hs3.fresh x hx with e | e
    · exact .inl (.inr e)
    · exact .inr (Nat.le_trans (Nat.le_trans hsz hs2.mod.size) e)
end
/-- The call's box. -/
structure DBox (bx : Nat) (kd md i g v : Int) (w : World) : Prop where
  k : w.cell? ⟨bx, 0, none⟩ = some (.int .i64 kd)
  m : w.cell? ⟨bx, 1, none⟩ = some (.int .i64 md)
  f : Lies w bx 2 #[.int .i64 i, .int .i64 g]
  v : w.cell? ⟨bx, 4, none⟩ = some (.int .u64 v)
theorem DBox.new {w : World} {kd md i g v : Int} {T : TypeId} : DBox w.heap.size kd md i g v (w.alloc (.cells #[.int .i64 kd, .int .i64 md, .int .i64 i, .int .i64 g, .int .u64 v] T)) :=
  ⟨cell_of heap_alloc_at rfl, cell_of heap_alloc_at rfl, fun j hj => by
    match j, hj with
    | 0, _ => exact cell_of heap_alloc_at rfl
    | 1, _ => exact cell_of heap_alloc_at rfl, cell_of heap_alloc_at rfl⟩
theorem DBox.drew {bx : Nat} {kd md i g v : Int} {w : World} (h : DBox bx kd md i g v w) : DBox bx kd md i g v w.drew := ⟨h.k, h.m, h.f, h.v⟩
theorem DBox.mod {bx : Nat} {kd md i g v : Int} {w w' : World} {S : Nat → Prop} (h : DBox bx kd md i g v w) (hm : Mod S w w') (hlt : bx < w.heap.size) (hS : ¬ S bx) : DBox bx kd md i g v w' := by
  have hb := hm.block bx hlt hS
  exact ⟨(World.cell?_of_block (a := ⟨bx, 0, none⟩) hb).trans h.k, (World.cell?_of_block (a := ⟨bx, 1, none⟩) hb).trans h.m, fun j hj => (World.cell?_of_block (a := ⟨bx, 2 + j, none⟩) hb).trans (h.f j hj), (World.cell?_of_block (a := ⟨bx, 4, none⟩) hb).trans h.v⟩
section
variable {w : World} {xb n : Nat} {T : Nat → Prop}
theorem r_open (h : RIs w xb T n) (hn : n ≤ 500) (v : Int) : Calls Try.prog 34 #[.pointer (some ⟨xb, 0, none⟩), .int .u64 v] w fun e w' => SomeInt e ∧ RDone w xb (n + 1) T w' := by
  obtain ⟨xl, ph, se, bo, lv, R, wv, W, tm, sv, L, h1, rfl, h2, h3, h4⟩ := h.eq
  exact rOpen_any h1 v (n := n + 1) (by omega) (by omega) (by omega)
theorem r_reboot (h : RIs w xb T n) (hn : n ≤ 500) (v : Int) : Calls Try.prog 35 #[.pointer (some ⟨xb, 0, none⟩), .int .u64 v] w fun e w' => SomeInt e ∧ RDone w xb (n + 1) T w' := by
  obtain ⟨xl, ph, se, bo, lv, R, wv, W, tm, sv, L, h1, rfl, h2, h3, h4⟩ := h.eq
  exact rReboot_any h1 (by omega) v (n := n + 1) (by omega) (by omega) (by omega)
theorem r_claimed (h : RIs w xb T n) (hn : n ≤ 500) (i g v : Int) (is : Bool) : Calls Try.prog 36 #[.pointer (some ⟨xb, 0, none⟩), .agg #[.int .i64 i, .int .i64 g], .int .u64 v, .bool is] w fun e w' => SomeInt e ∧ RDone w xb (n + 1) T w' := by
  obtain ⟨xl, ph, se, bo, lv, R, wv, W, tm, sv, L, h1, rfl, h2, h3, h4⟩ := h.eq
  exact rClaimed_any h1 (by omega) i g v is (n := n + 1) (by omega) (by omega) (by omega)
theorem r_settled (h : RIs w xb T n) (hn : n ≤ 500) : Calls Try.prog 37 #[.pointer (some ⟨xb, 0, none⟩)] w fun e w' => SomeInt e ∧ RDone w xb (n + 1) T w' := by
  obtain ⟨xl, ph, se, bo, lv, R, wv, W, tm, sv, L, h1, rfl, h2, h3, h4⟩ := h.eq
  exact rSettled_any h1 (by omega) (n := n + 1) (by omega) (by omega) (by omega)
theorem r_grant (h : RIs w xb T n) (hn : n ≤ 500) (i g md v : Int) : Calls Try.prog 38 #[.pointer (some ⟨xb, 0, none⟩), .agg #[.int .i64 i, .int .i64 g], .int .i64 md, .int .u64 v] w fun e w' => SomeInt e ∧ RDone w xb (n + 1) T w' := by
  obtain ⟨xl, ph, se, bo, lv, R, wv, W, tm, sv, L, h1, rfl, h2, h3, h4⟩ := h.eq
  exact rGrant_any h1 (by omega) i g md v (n := n) h2 h3 h4
theorem r_give (h : RIs w xb T n) (hn : n ≤ 500) (i g : Int) : Calls Try.prog 39 #[.pointer (some ⟨xb, 0, none⟩), .agg #[.int .i64 i, .int .i64 g]] w fun e w' => SomeInt e ∧ RDone w xb (n + 1) T w' := by
  obtain ⟨xl, ph, se, bo, lv, R, wv, W, tm, sv, L, h1, rfl, h2, h3, h4⟩ := h.eq
  exact rGive_any h1 (by omega) (by omega) i g (n := n + 1) (by omega) (by omega) (by omega)
theorem r_update (h : RIs w xb T n) (hn : n ≤ 500) (i g v : Int) : Calls Try.prog 40 #[.pointer (some ⟨xb, 0, none⟩), .agg #[.int .i64 i, .int .i64 g], .int .u64 v] w fun e w' => SomeInt e ∧ RDone w xb (n + 1) T w' := by
  obtain ⟨xl, ph, se, bo, lv, R, wv, W, tm, sv, L, h1, rfl, h2, h3, h4⟩ := h.eq
  exact rUpdate_any h1 (by omega) i g v (n := n + 1) (by omega) (by omega) (by omega)
theorem r_want (h : RIs w xb T n) (hn : n ≤ 500) (i g : Int) : Calls Try.prog 41 #[.pointer (some ⟨xb, 0, none⟩), .agg #[.int .i64 i, .int .i64 g]] w fun e w' => SomeInt e ∧ RDone w xb (n + 1) T w' := by
  obtain ⟨xl, ph, se, bo, lv, R, wv, W, tm, sv, L, h1, rfl, h2, h3, h4⟩ := h.eq
  exact rWant_any h1 (by omega) i g (n := n) h2 h3 h4
theorem r_lose (h : RIs w xb T n) (hn : n ≤ 500) (v : Int) : Calls Try.prog 33 #[.pointer (some ⟨xb, 0, none⟩), .int .u64 v] w fun e w' => (∃ u FL, e = .returned u ∧ LSl enF 2 w' u FL) ∧ RDone w xb (n + 1) T w' := by
  obtain ⟨xl, ph, se, bo, lv, R, wv, W, tm, sv, L, h1, rfl, h2, h3, h4⟩ := h.eq
  exact rLose_any h1 (by omega) v (n := n + 1) (by omega) (by omega) (by omega)
theorem RIs.lease (h : RIs w xb T n) : ∃ xl : Nat, T xb ∧ w.cell? ⟨xb, 5, none⟩ = some (.pointer (some ⟨xl, 0, none⟩)) ∧ ∀ w' T' n' (_ : RIs w' xb T' n') (_ : w'.cell? ⟨xb, 5, none⟩ = some (.pointer (some ⟨xl, 0, none⟩))) (_ : n' ≤ 500) (v : Int), Calls Try.prog 42 #[.pointer (some ⟨xl, 0, none⟩), .int .u64 v] w' fun e w'' => SomeInt e ∧ RDone w' xb (n' + 1) T' w'' ∧ w''.cell? ⟨xb, 5, none⟩ = some (.pointer (some ⟨xl, 0, none⟩)) := by
  obtain ⟨xl, ph, se, bo, lv, R, wv, W, tm, sv, L, h1, rfl, h2, h3, h4⟩ := h.eq
  refine ⟨xl, .inl rfl, h1.c5, fun w' T' n' h' hc hn v => ?_⟩
  obtain ⟨xl', ph', se', bo', lv', R', wv', W', tm', sv', L', h1', rfl, h2', h3', h4'⟩ := h'.eq
  have e := h1'.c5
  rw [hc] at e
  obtain rfl : xl = xl' := by simpa using e
  exact rAck_any h1' (by omega) v h2' h3' h4'
end
section
variable {w : World} {b xb n : Nat} {S T : Nat → Prop} {ph bo : Int} {G : Gs}
set_option maxRecDepth 40000 in
set_option maxHeartbeats 2000000 in
theorem does_1 (h : Both w b xb n S T ph bo G) (hn : n ≤ 400) (md i g v : Int) : Calls Try.prog 9 #[.pointer (some ⟨b, 0, none⟩), .pointer (some ⟨xb, 0, none⟩), .agg #[.int .i64 1, .int .i64 md, .int .i64 i, .int .i64 g, .int .u64 v]] w
    fun e w' => SomeBool e ∧ DDone (fun _ => False) False w b xb (n + 2) S T ph bo G w' := by
  obtain ⟨w1, hw1⟩ : ∃ w1, w.alloc (.cells #[.int .i64 1, .int .i64 md, .int .i64 i, .int .i64 g, .int .u64 v] 41) = w1 := ⟨_, rfl⟩
  have hW : Below w.heap.size w w1 := by rw [← hw1]; exact (Below.refl _ _).alloc (Nat.le_refl _) _
  have hS0 : DBox w.heap.size 1 md i g v w1 := by rw [← hw1]; exact DBox.new
  have hS := hS0.drew
  have hB := h.below hW.drew
  have k0 := hS0.k
  have hlt1 : w.heap.size < w1.drew.heap.size := World.block_lt_of_cell? w1 _ k0
  have HW := Lib.hid hW
  have H1 := Lib.hid hw1
  have H0 := Lib.hid h
  clear h hw1 hW hS0
  go_enter Try.func9, Try.ntmps9
  go_upto_region 1 with (fail)
  rw [H1.out]
  go_upto_region 6 with (fail)
  clear k0
  refine wp_region_x (DBox w.heap.size 1 md i g v) [(0, 1), (1, 1), (2, 0), (4, 1), (5, 1), (6, 0), (3, 2), (7, 2), (8, 1), (9, 1)] (by kernel_rfl) (by kernel_rfl) (by intro d v c a w h; cases d <;> exact h) ?_
  iterate 2 (refine x_take rfl (fun K hK => ?_); go_simp; refine hK _ ?_; clear hK K)
  refine x_read rfl hS (fun w' h => exec_load1 scalar64 rfl h.v) ?_
  iterate 2 (refine x_take rfl (fun K hK => ?_); go_simp; refine hK _ ?_; clear hK K)
  refine x_read rfl hS (fun w' h => exec_load1 scalar64 rfl h.v) ?_
  refine x_show' rfl (fun K hK => ?_)
  go_simp
  refine (p_open (A := (fun _ => False)) (B := False) hB.p v).mono ?_
  rintro e w2 ⟨⟨c2, rfl⟩, hd2⟩
  obtain ⟨ph2, bo2, G2, S2, hB2, hs2, ht2⟩ := hB.prog hd2 (by omega)
  have hS2 := hS.mod hs2.mod hlt1 (H0.out.not_s)
  refine hK _ _ hS2 ?_
  clear hK K hd2 hS
  refine x_show' rfl (fun K hK => ?_)
  go_simp
  refine (r_open hB2.r (by omega) v).mono ?_
  rintro e w3 ⟨⟨c3, rfl⟩, hd3⟩
  obtain ⟨T3, hB3, hs3⟩ := (hB2.mono (Nat.le_succ _)).refd hd3
  have hS3 := hS2.mod hs3.mod (Nat.lt_of_lt_of_le hlt1 hs2.mod.size) (H0.out.not_t)
  refine hK _ _ hS3 ?_
  clear hK K hd3 hS2 hS3
  iterate 2 (refine x_take rfl (fun K hK => ?_); go_simp; refine hK _ ?_; clear hK K)
  refine x_nil ?_
  have hfin := ddone HW.out hs2 hs3 ht2 hB3
  have HF := Lib.hid hfin
  clear hfin hs2 hs3 ht2 hB3
  go_wp2
  go_ret
  exact ⟨⟨_, rfl⟩, HF.out⟩
set_option maxRecDepth 40000 in
set_option maxHeartbeats 2000000 in
theorem does_2 (h : Both w b xb n S T ph bo G) (hn : n ≤ 400) (md i g v : Int) : Calls Try.prog 9 #[.pointer (some ⟨b, 0, none⟩), .pointer (some ⟨xb, 0, none⟩), .agg #[.int .i64 2, .int .i64 md, .int .i64 i, .int .i64 g, .int .u64 v]] w
    fun e w' => SomeBool e ∧ DDone (fun _ => False) True w b xb (n + 2) S T ph bo G w' := by
  obtain ⟨w1, hw1⟩ : ∃ w1, w.alloc (.cells #[.int .i64 2, .int .i64 md, .int .i64 i, .int .i64 g, .int .u64 v] 41) = w1 := ⟨_, rfl⟩
  have hW : Below w.heap.size w w1 := by rw [← hw1]; exact (Below.refl _ _).alloc (Nat.le_refl _) _
  have hS0 : DBox w.heap.size 2 md i g v w1 := by rw [← hw1]; exact DBox.new
  have hS := hS0.drew
  have hB := h.below hW.drew
  have k0 := hS0.k
  have hlt1 : w.heap.size < w1.drew.heap.size := World.block_lt_of_cell? w1 _ k0
  have HW := Lib.hid hW
  have H1 := Lib.hid hw1
  have H0 := Lib.hid h
  clear h hw1 hW hS0
  go_enter Try.func9, Try.ntmps9
  go_upto_region 1 with (fail)
  rw [H1.out]
  go_upto_region 8 with (fail)
  clear k0
  refine wp_region_x (DBox w.heap.size 2 md i g v) [(0, 1), (1, 1), (2, 0), (4, 1), (5, 1), (6, 0), (3, 2), (7, 2), (8, 1), (9, 1)] (by kernel_rfl) (by kernel_rfl) (by intro d v c a w h; cases d <;> exact h) ?_
  iterate 2 (refine x_take rfl (fun K hK => ?_); go_simp; refine hK _ ?_; clear hK K)
  refine x_read rfl hS (fun w' h => exec_load1 scalar64 rfl h.v) ?_
  iterate 2 (refine x_take rfl (fun K hK => ?_); go_simp; refine hK _ ?_; clear hK K)
  refine x_read rfl hS (fun w' h => exec_load1 scalar64 rfl h.v) ?_
  refine x_show' rfl (fun K hK => ?_)
  go_simp
  refine (p_reboot (A := (fun _ => False)) (B := True) hB.p trivial v).mono ?_
  rintro e w2 ⟨⟨c2, rfl⟩, hd2⟩
  obtain ⟨ph2, bo2, G2, S2, hB2, hs2, ht2⟩ := hB.prog hd2 (by omega)
  have hS2 := hS.mod hs2.mod hlt1 (H0.out.not_s)
  refine hK _ _ hS2 ?_
  clear hK K hd2 hS
  refine x_show' rfl (fun K hK => ?_)
  go_simp
  refine (r_reboot hB2.r (by omega) v).mono ?_
  rintro e w3 ⟨⟨c3, rfl⟩, hd3⟩
  obtain ⟨T3, hB3, hs3⟩ := (hB2.mono (Nat.le_succ _)).refd hd3
  have hS3 := hS2.mod hs3.mod (Nat.lt_of_lt_of_le hlt1 hs2.mod.size) (H0.out.not_t)
  refine hK _ _ hS3 ?_
  clear hK K hd3 hS2 hS3
  iterate 2 (refine x_take rfl (fun K hK => ?_); go_simp; refine hK _ ?_; clear hK K)
  refine x_nil ?_
  have hfin := ddone HW.out hs2 hs3 ht2 hB3
  have HF := Lib.hid hfin
  clear hfin hs2 hs3 ht2 hB3
  go_wp2
  go_ret
  exact ⟨⟨_, rfl⟩, HF.out⟩
set_option maxRecDepth 40000 in
set_option maxHeartbeats 2000000 in
theorem does_3 (h : Both w b xb n S T ph bo G) (hn : n ≤ 400) (md i g v : Int) : Calls Try.prog 9 #[.pointer (some ⟨b, 0, none⟩), .pointer (some ⟨xb, 0, none⟩), .agg #[.int .i64 3, .int .i64 md, .int .i64 i, .int .i64 g, .int .u64 v]] w
    fun e w' => SomeBool e ∧ DDone (fun f => f = (i, g)) False w b xb (n + 2) S T ph bo G w' := by
  obtain ⟨w1, hw1⟩ : ∃ w1, w.alloc (.cells #[.int .i64 3, .int .i64 md, .int .i64 i, .int .i64 g, .int .u64 v] 41) = w1 := ⟨_, rfl⟩
  have hW : Below w.heap.size w w1 := by rw [← hw1]; exact (Below.refl _ _).alloc (Nat.le_refl _) _
  have hS0 : DBox w.heap.size 3 md i g v w1 := by rw [← hw1]; exact DBox.new
  have hS := hS0.drew
  have hB := h.below hW.drew
  have k0 := hS0.k
  have hlt1 : w.heap.size < w1.drew.heap.size := World.block_lt_of_cell? w1 _ k0
  have HW := Lib.hid hW
  have H1 := Lib.hid hw1
  have H0 := Lib.hid h
  clear h hw1 hW hS0
  go_enter Try.func9, Try.ntmps9
  go_upto_region 1 with (fail)
  rw [H1.out]
  go_upto_region 10 with (fail)
  clear k0
  refine wp_region_x (DBox w.heap.size 3 md i g v) [(0, 1), (1, 1), (2, 0), (3, 1), (4, 0), (6, 1), (7, 1), (8, 0), (9, 1), (10, 0), (5, 2), (11, 2), (12, 1), (13, 1)] (by kernel_rfl) (by kernel_rfl) (by intro d v c a w h; cases d <;> exact h) ?_
  iterate 2 (refine x_take rfl (fun K hK => ?_); go_simp; refine hK _ ?_; clear hK K)
  refine x_read rfl hS (fun w' h => exec_loadA (aggF _ _) rfl h.f) ?_
  iterate 1 (refine x_take rfl (fun K hK => ?_); go_simp; refine hK _ ?_; clear hK K)
  refine x_read rfl hS (fun w' h => exec_load1 scalar64 rfl h.v) ?_
  iterate 2 (refine x_take rfl (fun K hK => ?_); go_simp; refine hK _ ?_; clear hK K)
  refine x_read rfl hS (fun w' h => exec_loadA (aggF _ _) rfl h.f) ?_
  iterate 1 (refine x_take rfl (fun K hK => ?_); go_simp; refine hK _ ?_; clear hK K)
  refine x_read rfl hS (fun w' h => exec_load1 scalar64 rfl h.v) ?_
  refine x_show' rfl (fun K hK => ?_)
  go_simp
  refine (p_claimed (A := (fun f => f = (i, g))) (B := False) hB.p i g v rfl).mono ?_
  rintro e w2 ⟨⟨c2, rfl⟩, hd2⟩
  obtain ⟨ph2, bo2, G2, S2, hB2, hs2, ht2⟩ := hB.prog hd2 (by omega)
  have hS2 := hS.mod hs2.mod hlt1 (H0.out.not_s)
  refine hK _ _ hS2 ?_
  clear hK K hd2 hS
  refine x_show' rfl (fun K hK => ?_)
  go_simp
  refine (r_claimed hB2.r (by omega) i g v true).mono ?_
  rintro e w3 ⟨⟨c3, rfl⟩, hd3⟩
  obtain ⟨T3, hB3, hs3⟩ := (hB2.mono (Nat.le_succ _)).refd hd3
  have hS3 := hS2.mod hs3.mod (Nat.lt_of_lt_of_le hlt1 hs2.mod.size) (H0.out.not_t)
  refine hK _ _ hS3 ?_
  clear hK K hd3 hS2 hS3
  iterate 2 (refine x_take rfl (fun K hK => ?_); go_simp; refine hK _ ?_; clear hK K)
  refine x_nil ?_
  have hfin := ddone HW.out hs2 hs3 ht2 hB3
  have HF := Lib.hid hfin
  clear hfin hs2 hs3 ht2 hB3
  go_wp2
  go_ret
  exact ⟨⟨_, rfl⟩, HF.out⟩
set_option maxRecDepth 40000 in
set_option maxHeartbeats 2000000 in
theorem does_4 (h : Both w b xb n S T ph bo G) (hn : n ≤ 400) (md i g v : Int) : Calls Try.prog 9 #[.pointer (some ⟨b, 0, none⟩), .pointer (some ⟨xb, 0, none⟩), .agg #[.int .i64 4, .int .i64 md, .int .i64 i, .int .i64 g, .int .u64 v]] w
    fun e w' => SomeBool e ∧ DDone (fun _ => False) False w b xb (n + 2) S T ph bo G w' := by
  obtain ⟨w1, hw1⟩ : ∃ w1, w.alloc (.cells #[.int .i64 4, .int .i64 md, .int .i64 i, .int .i64 g, .int .u64 v] 41) = w1 := ⟨_, rfl⟩
  have hW : Below w.heap.size w w1 := by rw [← hw1]; exact (Below.refl _ _).alloc (Nat.le_refl _) _
  have hS0 : DBox w.heap.size 4 md i g v w1 := by rw [← hw1]; exact DBox.new
  have hS := hS0.drew
  have hB := h.below hW.drew
  have k0 := hS0.k
  have hlt1 : w.heap.size < w1.drew.heap.size := World.block_lt_of_cell? w1 _ k0
  have HW := Lib.hid hW
  have H1 := Lib.hid hw1
  have H0 := Lib.hid h
  clear h hw1 hW hS0
  go_enter Try.func9, Try.ntmps9
  go_upto_region 1 with (fail)
  rw [H1.out]
  go_upto_region 12 with (fail)
  clear k0
  refine wp_region_x (DBox w.heap.size 4 md i g v) [(0, 1), (1, 1), (2, 0), (4, 1), (5, 1), (6, 0), (3, 2), (7, 2), (8, 1), (9, 1)] (by kernel_rfl) (by kernel_rfl) (by intro d v c a w h; cases d <;> exact h) ?_
  iterate 2 (refine x_take rfl (fun K hK => ?_); go_simp; refine hK _ ?_; clear hK K)
  refine x_read rfl hS (fun w' h => exec_loadA (aggF _ _) rfl h.f) ?_
  iterate 2 (refine x_take rfl (fun K hK => ?_); go_simp; refine hK _ ?_; clear hK K)
  refine x_read rfl hS (fun w' h => exec_loadA (aggF _ _) rfl h.f) ?_
  refine x_show' rfl (fun K hK => ?_)
  go_simp
  refine (p_unclaimed (A := (fun _ => False)) (B := False) hB.p i g).mono ?_
  rintro e w2 ⟨⟨c2, rfl⟩, hd2⟩
  obtain ⟨ph2, bo2, G2, S2, hB2, hs2, ht2⟩ := hB.prog hd2 (by omega)
  have hS2 := hS.mod hs2.mod hlt1 (H0.out.not_s)
  refine hK _ _ hS2 ?_
  clear hK K hd2 hS
  refine x_show' rfl (fun K hK => ?_)
  go_simp
  refine (r_claimed hB2.r (by omega) i g 0 false).mono ?_
  rintro e w3 ⟨⟨c3, rfl⟩, hd3⟩
  obtain ⟨T3, hB3, hs3⟩ := (hB2.mono (Nat.le_succ _)).refd hd3
  have hS3 := hS2.mod hs3.mod (Nat.lt_of_lt_of_le hlt1 hs2.mod.size) (H0.out.not_t)
  refine hK _ _ hS3 ?_
  clear hK K hd3 hS2 hS3
  iterate 2 (refine x_take rfl (fun K hK => ?_); go_simp; refine hK _ ?_; clear hK K)
  refine x_nil ?_
  have hfin := ddone HW.out hs2 hs3 ht2 hB3
  have HF := Lib.hid hfin
  clear hfin hs2 hs3 ht2 hB3
  go_wp2
  go_ret
  exact ⟨⟨_, rfl⟩, HF.out⟩
set_option maxRecDepth 40000 in
set_option maxHeartbeats 2000000 in
theorem does_6 (h : Both w b xb n S T ph bo G) (hn : n ≤ 400) (md i g v : Int) : Calls Try.prog 9 #[.pointer (some ⟨b, 0, none⟩), .pointer (some ⟨xb, 0, none⟩), .agg #[.int .i64 6, .int .i64 md, .int .i64 i, .int .i64 g, .int .u64 v]] w
    fun e w' => SomeBool e ∧ DDone (fun _ => False) False w b xb (n + 2) S T ph bo G w' := by
  obtain ⟨w1, hw1⟩ : ∃ w1, w.alloc (.cells #[.int .i64 6, .int .i64 md, .int .i64 i, .int .i64 g, .int .u64 v] 41) = w1 := ⟨_, rfl⟩
  have hW : Below w.heap.size w w1 := by rw [← hw1]; exact (Below.refl _ _).alloc (Nat.le_refl _) _
  have hS0 : DBox w.heap.size 6 md i g v w1 := by rw [← hw1]; exact DBox.new
  have hS := hS0.drew
  have hB := h.below hW.drew
  have k0 := hS0.k
  have hlt1 : w.heap.size < w1.drew.heap.size := World.block_lt_of_cell? w1 _ k0
  have HW := Lib.hid hW
  have H1 := Lib.hid hw1
  have H0 := Lib.hid h
  clear h hw1 hW hS0
  go_enter Try.func9, Try.ntmps9
  go_upto_region 1 with (fail)
  rw [H1.out]
  go_upto_region 16 with (fail)
  clear k0
  refine wp_region_x (DBox w.heap.size 6 md i g v) [(0, 1), (1, 1), (2, 0), (3, 1), (4, 0), (5, 1), (6, 0), (8, 1), (9, 1), (10, 0), (11, 1), (12, 0), (13, 1), (14, 0), (7, 2), (15, 2), (16, 1), (17, 1)] (by kernel_rfl) (by kernel_rfl) (by intro d v c a w h; cases d <;> exact h) ?_
  iterate 2 (refine x_take rfl (fun K hK => ?_); go_simp; refine hK _ ?_; clear hK K)
  refine x_read rfl hS (fun w' h => exec_loadA (aggF _ _) rfl h.f) ?_
  iterate 1 (refine x_take rfl (fun K hK => ?_); go_simp; refine hK _ ?_; clear hK K)
  refine x_read rfl hS (fun w' h => exec_load1 scalarInt rfl h.m) ?_
  iterate 1 (refine x_take rfl (fun K hK => ?_); go_simp; refine hK _ ?_; clear hK K)
  refine x_read rfl hS (fun w' h => exec_load1 scalar64 rfl h.v) ?_
  iterate 2 (refine x_take rfl (fun K hK => ?_); go_simp; refine hK _ ?_; clear hK K)
  refine x_read rfl hS (fun w' h => exec_loadA (aggF _ _) rfl h.f) ?_
  iterate 1 (refine x_take rfl (fun K hK => ?_); go_simp; refine hK _ ?_; clear hK K)
  refine x_read rfl hS (fun w' h => exec_load1 scalarInt rfl h.m) ?_
  iterate 1 (refine x_take rfl (fun K hK => ?_); go_simp; refine hK _ ?_; clear hK K)
  refine x_read rfl hS (fun w' h => exec_load1 scalar64 rfl h.v) ?_
  refine x_show' rfl (fun K hK => ?_)
  go_simp
  refine (p_grant (A := (fun _ => False)) (B := False) hB.p i g md v).mono ?_
  rintro e w2 ⟨⟨c2, rfl⟩, hd2⟩
  obtain ⟨ph2, bo2, G2, S2, hB2, hs2, ht2⟩ := hB.prog hd2 (by omega)
  have hS2 := hS.mod hs2.mod hlt1 (H0.out.not_s)
  refine hK _ _ hS2 ?_
  clear hK K hd2 hS
  refine x_show' rfl (fun K hK => ?_)
  go_simp
  refine (r_grant hB2.r (by omega) i g md v).mono ?_
  rintro e w3 ⟨⟨c3, rfl⟩, hd3⟩
  obtain ⟨T3, hB3, hs3⟩ := (hB2.mono (Nat.le_succ _)).refd hd3
  have hS3 := hS2.mod hs3.mod (Nat.lt_of_lt_of_le hlt1 hs2.mod.size) (H0.out.not_t)
  refine hK _ _ hS3 ?_
  clear hK K hd3 hS2 hS3
  iterate 2 (refine x_take rfl (fun K hK => ?_); go_simp; refine hK _ ?_; clear hK K)
  refine x_nil ?_
  have hfin := ddone HW.out hs2 hs3 ht2 hB3
  have HF := Lib.hid hfin
  clear hfin hs2 hs3 ht2 hB3
  go_wp2
  go_ret
  exact ⟨⟨_, rfl⟩, HF.out⟩
set_option maxRecDepth 40000 in
set_option maxHeartbeats 2000000 in
theorem does_7 (h : Both w b xb n S T ph bo G) (hn : n ≤ 400) (md i g v : Int) : Calls Try.prog 9 #[.pointer (some ⟨b, 0, none⟩), .pointer (some ⟨xb, 0, none⟩), .agg #[.int .i64 7, .int .i64 md, .int .i64 i, .int .i64 g, .int .u64 v]] w
    fun e w' => SomeBool e ∧ DDone (fun _ => False) False w b xb (n + 2) S T ph bo G w' := by
  obtain ⟨w1, hw1⟩ : ∃ w1, w.alloc (.cells #[.int .i64 7, .int .i64 md, .int .i64 i, .int .i64 g, .int .u64 v] 41) = w1 := ⟨_, rfl⟩
  have hW : Below w.heap.size w w1 := by rw [← hw1]; exact (Below.refl _ _).alloc (Nat.le_refl _) _
  have hS0 : DBox w.heap.size 7 md i g v w1 := by rw [← hw1]; exact DBox.new
  have hS := hS0.drew
  have hB := h.below hW.drew
  have k0 := hS0.k
  have hlt1 : w.heap.size < w1.drew.heap.size := World.block_lt_of_cell? w1 _ k0
  have HW := Lib.hid hW
  have H1 := Lib.hid hw1
  have H0 := Lib.hid h
  clear h hw1 hW hS0
  go_enter Try.func9, Try.ntmps9
  go_upto_region 1 with (fail)
  rw [H1.out]
  go_upto_region 18 with (fail)
  clear k0
  refine wp_region_x (DBox w.heap.size 7 md i g v) [(0, 1), (1, 1), (2, 0), (4, 1), (5, 1), (6, 0), (3, 2), (7, 2), (8, 1), (9, 1)] (by kernel_rfl) (by kernel_rfl) (by intro d v c a w h; cases d <;> exact h) ?_
  iterate 2 (refine x_take rfl (fun K hK => ?_); go_simp; refine hK _ ?_; clear hK K)
  refine x_read rfl hS (fun w' h => exec_loadA (aggF _ _) rfl h.f) ?_
  iterate 2 (refine x_take rfl (fun K hK => ?_); go_simp; refine hK _ ?_; clear hK K)
  refine x_read rfl hS (fun w' h => exec_loadA (aggF _ _) rfl h.f) ?_
  refine x_show' rfl (fun K hK => ?_)
  go_simp
  refine (p_give (A := (fun _ => False)) (B := False) hB.p i g).mono ?_
  rintro e w2 ⟨⟨c2, rfl⟩, hd2⟩
  obtain ⟨ph2, bo2, G2, S2, hB2, hs2, ht2⟩ := hB.prog hd2 (by omega)
  have hS2 := hS.mod hs2.mod hlt1 (H0.out.not_s)
  refine hK _ _ hS2 ?_
  clear hK K hd2 hS
  refine x_show' rfl (fun K hK => ?_)
  go_simp
  refine (r_give hB2.r (by omega) i g).mono ?_
  rintro e w3 ⟨⟨c3, rfl⟩, hd3⟩
  obtain ⟨T3, hB3, hs3⟩ := (hB2.mono (Nat.le_succ _)).refd hd3
  have hS3 := hS2.mod hs3.mod (Nat.lt_of_lt_of_le hlt1 hs2.mod.size) (H0.out.not_t)
  refine hK _ _ hS3 ?_
  clear hK K hd3 hS2 hS3
  iterate 2 (refine x_take rfl (fun K hK => ?_); go_simp; refine hK _ ?_; clear hK K)
  refine x_nil ?_
  have hfin := ddone HW.out hs2 hs3 ht2 hB3
  have HF := Lib.hid hfin
  clear hfin hs2 hs3 ht2 hB3
  go_wp2
  go_ret
  exact ⟨⟨_, rfl⟩, HF.out⟩
set_option maxRecDepth 40000 in
set_option maxHeartbeats 2000000 in
theorem does_8 (h : Both w b xb n S T ph bo G) (hn : n ≤ 400) (md i g v : Int) : Calls Try.prog 9 #[.pointer (some ⟨b, 0, none⟩), .pointer (some ⟨xb, 0, none⟩), .agg #[.int .i64 8, .int .i64 md, .int .i64 i, .int .i64 g, .int .u64 v]] w
    fun e w' => SomeBool e ∧ DDone (fun _ => False) False w b xb (n + 2) S T ph bo G w' := by
  obtain ⟨w1, hw1⟩ : ∃ w1, w.alloc (.cells #[.int .i64 8, .int .i64 md, .int .i64 i, .int .i64 g, .int .u64 v] 41) = w1 := ⟨_, rfl⟩
  have hW : Below w.heap.size w w1 := by rw [← hw1]; exact (Below.refl _ _).alloc (Nat.le_refl _) _
  have hS0 : DBox w.heap.size 8 md i g v w1 := by rw [← hw1]; exact DBox.new
  have hS := hS0.drew
  have hB := h.below hW.drew
  have k0 := hS0.k
  have hlt1 : w.heap.size < w1.drew.heap.size := World.block_lt_of_cell? w1 _ k0
  have HW := Lib.hid hW
  have H1 := Lib.hid hw1
  have H0 := Lib.hid h
  clear h hw1 hW hS0
  go_enter Try.func9, Try.ntmps9
  go_upto_region 1 with (fail)
  rw [H1.out]
  go_upto_region 20 with (fail)
  clear k0
  refine wp_region_x (DBox w.heap.size 8 md i g v) [(0, 1), (1, 1), (2, 0), (3, 1), (4, 0), (6, 1), (7, 1), (8, 0), (9, 1), (10, 0), (5, 2), (11, 2), (12, 1), (13, 1)] (by kernel_rfl) (by kernel_rfl) (by intro d v c a w h; cases d <;> exact h) ?_
  iterate 2 (refine x_take rfl (fun K hK => ?_); go_simp; refine hK _ ?_; clear hK K)
  refine x_read rfl hS (fun w' h => exec_loadA (aggF _ _) rfl h.f) ?_
  iterate 1 (refine x_take rfl (fun K hK => ?_); go_simp; refine hK _ ?_; clear hK K)
  refine x_read rfl hS (fun w' h => exec_load1 scalar64 rfl h.v) ?_
  iterate 2 (refine x_take rfl (fun K hK => ?_); go_simp; refine hK _ ?_; clear hK K)
  refine x_read rfl hS (fun w' h => exec_loadA (aggF _ _) rfl h.f) ?_
  iterate 1 (refine x_take rfl (fun K hK => ?_); go_simp; refine hK _ ?_; clear hK K)
  refine x_read rfl hS (fun w' h => exec_load1 scalar64 rfl h.v) ?_
  refine x_show' rfl (fun K hK => ?_)
  go_simp
  refine (p_update (A := (fun _ => False)) (B := False) hB.p i g v).mono ?_
  rintro e w2 ⟨⟨c2, rfl⟩, hd2⟩
  obtain ⟨ph2, bo2, G2, S2, hB2, hs2, ht2⟩ := hB.prog hd2 (by omega)
  have hS2 := hS.mod hs2.mod hlt1 (H0.out.not_s)
  refine hK _ _ hS2 ?_
  clear hK K hd2 hS
  refine x_show' rfl (fun K hK => ?_)
  go_simp
  refine (r_update hB2.r (by omega) i g v).mono ?_
  rintro e w3 ⟨⟨c3, rfl⟩, hd3⟩
  obtain ⟨T3, hB3, hs3⟩ := (hB2.mono (Nat.le_succ _)).refd hd3
  have hS3 := hS2.mod hs3.mod (Nat.lt_of_lt_of_le hlt1 hs2.mod.size) (H0.out.not_t)
  refine hK _ _ hS3 ?_
  clear hK K hd3 hS2 hS3
  iterate 2 (refine x_take rfl (fun K hK => ?_); go_simp; refine hK _ ?_; clear hK K)
  refine x_nil ?_
  have hfin := ddone HW.out hs2 hs3 ht2 hB3
  have HF := Lib.hid hfin
  clear hfin hs2 hs3 ht2 hB3
  go_wp2
  go_ret
  exact ⟨⟨_, rfl⟩, HF.out⟩
set_option maxRecDepth 40000 in
set_option maxHeartbeats 2000000 in
theorem does_9 (h : Both w b xb n S T ph bo G) (hn : n ≤ 400) (md i g v : Int) : Calls Try.prog 9 #[.pointer (some ⟨b, 0, none⟩), .pointer (some ⟨xb, 0, none⟩), .agg #[.int .i64 9, .int .i64 md, .int .i64 i, .int .i64 g, .int .u64 v]] w
    fun e w' => SomeBool e ∧ DDone (fun _ => False) False w b xb (n + 2) S T ph bo G w' := by
  obtain ⟨w1, hw1⟩ : ∃ w1, w.alloc (.cells #[.int .i64 9, .int .i64 md, .int .i64 i, .int .i64 g, .int .u64 v] 41) = w1 := ⟨_, rfl⟩
  have hW : Below w.heap.size w w1 := by rw [← hw1]; exact (Below.refl _ _).alloc (Nat.le_refl _) _
  have hS0 : DBox w.heap.size 9 md i g v w1 := by rw [← hw1]; exact DBox.new
  have hS := hS0.drew
  have hB := h.below hW.drew
  have k0 := hS0.k
  have hlt1 : w.heap.size < w1.drew.heap.size := World.block_lt_of_cell? w1 _ k0
  have HW := Lib.hid hW
  have H1 := Lib.hid hw1
  have H0 := Lib.hid h
  clear h hw1 hW hS0
  go_enter Try.func9, Try.ntmps9
  go_upto_region 1 with (fail)
  rw [H1.out]
  go_upto_region 22 with (fail)
  clear k0
  refine wp_region_x (DBox w.heap.size 9 md i g v) [(0, 1), (1, 1), (2, 0), (4, 1), (5, 1), (6, 0), (3, 2), (7, 2), (8, 1), (9, 1)] (by kernel_rfl) (by kernel_rfl) (by intro d v c a w h; cases d <;> exact h) ?_
  iterate 2 (refine x_take rfl (fun K hK => ?_); go_simp; refine hK _ ?_; clear hK K)
  refine x_read rfl hS (fun w' h => exec_loadA (aggF _ _) rfl h.f) ?_
  iterate 2 (refine x_take rfl (fun K hK => ?_); go_simp; refine hK _ ?_; clear hK K)
  refine x_read rfl hS (fun w' h => exec_loadA (aggF _ _) rfl h.f) ?_
  refine x_show' rfl (fun K hK => ?_)
  go_simp
  refine (p_want (A := (fun _ => False)) (B := False) hB.p (by omega) i g).mono ?_
  rintro e w2 ⟨⟨c2, rfl⟩, hd2⟩
  obtain ⟨ph2, bo2, G2, S2, hB2, hs2, ht2⟩ := hB.prog hd2 (by omega)
  have hS2 := hS.mod hs2.mod hlt1 (H0.out.not_s)
  refine hK _ _ hS2 ?_
  clear hK K hd2 hS
  refine x_show' rfl (fun K hK => ?_)
  go_simp
  refine (r_want hB2.r (by omega) i g).mono ?_
  rintro e w3 ⟨⟨c3, rfl⟩, hd3⟩
  obtain ⟨T3, hB3, hs3⟩ := (hB2.mono (Nat.le_succ _)).refd hd3
  have hS3 := hS2.mod hs3.mod (Nat.lt_of_lt_of_le hlt1 hs2.mod.size) (H0.out.not_t)
  refine hK _ _ hS3 ?_
  clear hK K hd3 hS2 hS3
  iterate 2 (refine x_take rfl (fun K hK => ?_); go_simp; refine hK _ ?_; clear hK K)
  refine x_nil ?_
  have hfin := ddone HW.out hs2 hs3 ht2 hB3
  have HF := Lib.hid hfin
  clear hfin hs2 hs3 ht2 hB3
  go_wp2
  go_ret
  exact ⟨⟨_, rfl⟩, HF.out⟩
set_option maxRecDepth 40000 in
set_option maxHeartbeats 2000000 in
theorem does_5 (h : Both w b xb n S T ph bo G) (hn : n ≤ 400) (md i g v : Int) : Calls Try.prog 9 #[.pointer (some ⟨b, 0, none⟩), .pointer (some ⟨xb, 0, none⟩), .agg #[.int .i64 5, .int .i64 md, .int .i64 i, .int .i64 g, .int .u64 v]] w
    fun e w' => SomeBool e ∧ DDone (fun _ => False) False w b xb (n + 2) S T ph bo G w' := by
  obtain ⟨w1, hw1⟩ : ∃ w1, w.alloc (.cells #[.int .i64 5, .int .i64 md, .int .i64 i, .int .i64 g, .int .u64 v] 41) = w1 := ⟨_, rfl⟩
  have hW : Below w.heap.size w w1 := by rw [← hw1]; exact (Below.refl _ _).alloc (Nat.le_refl _) _
  have hS0 : DBox w.heap.size 5 md i g v w1 := by rw [← hw1]; exact DBox.new
  have hS := hS0.drew
  have hB := h.below hW.drew
  have k0 := hS0.k
  have hlt1 : w.heap.size < w1.drew.heap.size := World.block_lt_of_cell? w1 _ k0
  have HW := Lib.hid hW
  have H1 := Lib.hid hw1
  have H0 := Lib.hid h
  clear h hw1 hW hS0
  go_enter Try.func9, Try.ntmps9
  go_upto_region 1 with (fail)
  rw [H1.out]
  clear hS hB
  have hB := (H0.out.below HW.out)
  go_upto_region 14 with (fail)
  clear k0
  go_wp2_with fail
  refine (p_settled (A := fun _ => False) (B := False) hB.p (by omega)).mono ?_
  rintro e w2 ⟨⟨c2, rfl⟩, hd2⟩
  obtain ⟨ph2, bo2, G2, S2, hB2, hs2, ht2⟩ := hB.prog hd2 (by omega)
  have hs2' : Step w1.drew w2 S S2 := ⟨⟨hs2.mod.os, hs2.mod.tape, hs2.mod.output, hs2.mod.size, hs2.mod.block⟩, hs2.fresh⟩
  clear hd2 hB
  go_wp2_with fail
  refine (r_settled hB2.r (by omega)).mono ?_
  rintro e w3 ⟨⟨c3, rfl⟩, hd3⟩
  obtain ⟨T3, hB3, hs3⟩ := (hB2.mono (Nat.le_succ _)).refd hd3
  have hfin := ddone HW.out hs2' hs3 ht2 hB3
  have HF := Lib.hid hfin
  clear hfin hs2 hs2' hs3 ht2 hB3 hd3 hB2
  go_wp2
  go_ret
  exact ⟨⟨_, rfl⟩, HF.out⟩
set_option maxRecDepth 40000 in
set_option maxHeartbeats 2000000 in
theorem does_0 (h : Both w b xb n S T ph bo G) (hn : n ≤ 400) (md i g v : Int) : Calls Try.prog 9 #[.pointer (some ⟨b, 0, none⟩), .pointer (some ⟨xb, 0, none⟩), .agg #[.int .i64 0, .int .i64 md, .int .i64 i, .int .i64 g, .int .u64 v]] w
    fun e w' => SomeBool e ∧ DDone (fun _ => False) False w b xb (n + 2) S T ph bo G w' := by
  obtain ⟨w1, hw1⟩ : ∃ w1, w.alloc (.cells #[.int .i64 0, .int .i64 md, .int .i64 i, .int .i64 g, .int .u64 v] 41) = w1 := ⟨_, rfl⟩
  have hW : Below w.heap.size w w1 := by rw [← hw1]; exact (Below.refl _ _).alloc (Nat.le_refl _) _
  have hS0 : DBox w.heap.size 0 md i g v w1 := by rw [← hw1]; exact DBox.new
  have hS := hS0.drew
  have hB := h.below hW.drew
  have k0 := hS0.k
  have hlt1 : w.heap.size < w1.drew.heap.size := World.block_lt_of_cell? w1 _ k0
  have HW := Lib.hid hW
  have H1 := Lib.hid hw1
  have H0 := Lib.hid h
  clear h hw1 hW hS0
  go_enter Try.func9, Try.ntmps9
  go_upto_region 1 with (fail)
  rw [H1.out]
  go_upto_region 4 with (fail)
  clear k0
  refine wp_region_x (DBox w.heap.size 0 md i g v) [(0, 1), (1, 1), (2, 0), (4, 1), (5, 1), (6, 0), (3, 2), (7, 2), (8, 2), (9, 1)] (by kernel_rfl) (by kernel_rfl) (by intro d v c a w h; cases d <;> exact h) ?_
  iterate 2 (refine x_take rfl (fun K hK => ?_); go_simp; refine hK _ ?_; clear hK K)
  refine x_read rfl hS (fun w' h => exec_load1 scalar64 rfl h.v) ?_
  iterate 2 (refine x_take rfl (fun K hK => ?_); go_simp; refine hK _ ?_; clear hK K)
  refine x_read rfl hS (fun w' h => exec_load1 scalar64 rfl h.v) ?_
  refine x_show' rfl (fun K hK => ?_)
  go_simp
  refine (p_lose (A := fun _ => False) (B := False) hB.p (by omega) v).mono ?_
  rintro e w2 ⟨⟨u2, FL2, rfl, hR2⟩, hd2⟩
  obtain ⟨ph2, bo2, G2, S2, hB2, hs2, ht2⟩ := hB.prog hd2 (by omega)
  have hS2 := hS.mod hs2.mod hlt1 (H0.out.not_s)
  refine hK _ _ hS2 ?_
  clear hK K hd2 hS
  refine x_show' rfl (fun K hK => ?_)
  go_simp
  refine (r_lose hB2.r (by omega) v).mono ?_
  rintro e w3 ⟨⟨u3, FL3, rfl, hR3⟩, hd3⟩
  obtain ⟨T3, hB3, hs3⟩ := (hB2.mono (Nat.le_succ _)).refd hd3
  have hS3 := hS2.mod hs3.mod (Nat.lt_of_lt_of_le hlt1 hs2.mod.size) (H0.out.not_t)
  have hU2 : LSl enF 2 w3 u2 FL2 := (hR2.kept hs3.mod.size fun r hr => hs3.mod.block r (hR2.lt r hr) (fun e => by
    have h1 := hR2.lo r hr
    have h2 := hB.r.lt r e
    omega)).sl
  refine hK _ _ hS3 ?_
  clear hK K hd3 hS2
  refine x_show' rfl (fun K hK => ?_)
  go_simp
  refine (same_some w3 u2 u3 FL2 FL3 hU2 hR3).mono ?_
  rintro e w4 ⟨⟨c4, rfl⟩, hb4⟩
  refine hK _ _ (hS3.mod (Mod.of_below hb4) (Nat.lt_of_lt_of_le hlt1 (Nat.le_trans hs2.mod.size hs3.mod.size)) (Nat.not_le.2 (Nat.lt_of_lt_of_le hlt1 (Nat.le_trans hs2.mod.size hs3.mod.size)))) ?_
  clear hK K hS3 hU2 hR3
  have hfin := ddone HW.out hs2 (hs3.trans (Step.of_below hb4)) ht2 (hB3.below hb4)
  have HF := Lib.hid hfin
  clear hfin hs2 hs3 ht2 hB3 hb4 hR2 hB
  iterate 1 (refine x_take rfl (fun K hK => ?_); go_simp; refine hK _ ?_; clear hK K)
  refine x_nil ?_
  go_wp2
  go_ret
  exact ⟨⟨_, rfl⟩, HF.out⟩
end
end Go.Proofs.Ythckjciblngaaaa
