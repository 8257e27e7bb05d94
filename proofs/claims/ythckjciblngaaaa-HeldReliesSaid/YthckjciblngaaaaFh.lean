/- The order of files, as the program's cmp.Or of two cmp.Compare: walked. -/
import Derived.Test.YthckjciblngaaaaFg
import Derived.LoopN
namespace Go.Proofs.Ythckjciblngaaaa
open Go.RowKit Go.Tn Go.Maps Go.Sort Go.Shelf

def cmpI (x y : Int) : Int := if x < y then -1 else if y < x then 1 else 0
def cmpF (a b : Fi) : Int := if cmpI a.1 b.1 ≠ 0 then cmpI a.1 b.1 else cmpI a.2 b.2

theorem isNaN_any (w : World) (x : Int) : Calls Try.prog 73 #[.int .i64 x] w fun e w' => e = .returned (.bool false) ∧ w' = w := by
  go_enter Try.func73, Try.ntmps73
  go_wp2
  go_ret
  exact ⟨by simp, rfl⟩
theorem compare_any (w : World) (x y : Int) : Calls Try.prog 65 #[.int .i64 x, .int .i64 y] w fun e w' => e = .returned (.int .i64 (cmpI x y)) ∧ w' = w := by
  have h3 : (x < y ∧ cmpI x y = -1) ∨ (¬ x < y ∧ y < x ∧ cmpI x y = 1) ∨ (¬ x < y ∧ ¬ y < x ∧ cmpI x y = 0) := by
    unfold cmpI
    by_cases h1 : x < y
    · exact .inl ⟨h1, by rw [if_pos h1]⟩
    · by_cases h2 : y < x
      · exact .inr (.inl ⟨h1, h2, by rw [if_neg h1, if_pos h2]⟩)
      · exact .inr (.inr ⟨h1, h2, by rw [if_neg h1, if_neg h2]⟩)
  have hn := isNaN_any
  rcases h3 with ⟨h1, hc⟩ | ⟨h1, h2, hc⟩ | ⟨h1, h2, hc⟩
  all_goals
    rw [hc]
    clear hc
    go_enter Try.func65, Try.ntmps65
    go_wp2_with fail
    refine (hn _ x).mono ?_
    rintro e w' ⟨rfl, hw⟩
    obtain rfl := hw.symm
    go_wp2_with fail
    refine (hn _ y).mono ?_
    rintro e w' ⟨rfl, hw⟩
    obtain rfl := hw.symm
    go_wp2
    go_ret
    exact ⟨rfl, rfl⟩
theorem or_any (w : World) (b : Nat) (x y : Int) (h0 : w.cell? ⟨b, 0, none⟩ = some (.int .i64 x)) (h1 : w.cell? ⟨b, 1, none⟩ = some (.int .i64 y)) : Calls Try.prog 64 #[.slice (some ⟨b, 0, none⟩) 2 2] w fun e w' => e = .returned (.int .i64 (if x ≠ 0 then x else y)) ∧ w' = w := by
  by_cases hx : x = 0
  · subst hx
    by_cases hy : y = 0
    · subst hy
      go_enter Try.func64, Try.ntmps64
      go_wp2
      refine wp_loop_rounds 3 ?_
      rw [rounds_succ]
      go_wp2
      rw [rounds_succ]
      go_wp2
      rw [rounds_succ]
      go_wp2
      go_ret
      exact ⟨rfl, rfl⟩
    · have t : (y == 0) = false := by simpa using hy
      have t' : (y != 0) = true := by simpa using hy
      go_enter Try.func64, Try.ntmps64
      go_wp2
      refine wp_loop_rounds 3 ?_
      rw [rounds_succ]
      go_wp2
      rw [rounds_succ]
      go_wp2
      go_ret
      exact ⟨by simp, rfl⟩
  · have t : (x == 0) = false := by simpa using hx
    have t' : (x != 0) = true := by simpa using hx
    rw [if_pos hx]
    go_enter Try.func64, Try.ntmps64
    go_wp2
    refine wp_loop_rounds 3 ?_
    rw [rounds_succ]
    go_wp2
    go_ret
    exact ⟨rfl, rfl⟩

set_option maxHeartbeats 1000000 in
theorem order_any (W : World) (a b : Fi) : Calls Try.prog 45 #[.agg #[.int .i64 a.1, .int .i64 a.2], .agg #[.int .i64 b.1, .int .i64 b.2]] W fun e w' => e = .returned (.int .i64 (cmpF a b)) ∧ ∃ q os', w' = grow (W.drewN q) os' := by
  obtain ⟨i, g⟩ := a
  obtain ⟨i', g'⟩ := b
  obtain ⟨w1, hw1⟩ : ∃ w1, (W.alloc (.cells #[.int .i64 i, .int .i64 g] 39)).alloc (.cells #[.int .i64 i', .int .i64 g'] 39) = w1 := ⟨_, rfl⟩
  have hsz : w1.heap.size = W.heap.size + 2 := by rw [← hw1]; simp
  have e1 : (W.alloc (.cells #[.int .i64 i, .int .i64 g] 39)).heap.size = W.heap.size + 1 := by simp
  have ha : w1.heap[W.heap.size]? = some (.cells #[.int .i64 i, .int .i64 g] 39 (0, 0)) := by rw [← hw1]; exact heap_alloc_of heap_alloc_at
  have hb : w1.heap[W.heap.size + 1]? = some (.cells #[.int .i64 i', .int .i64 g'] 39 (0, 0)) := by rw [← hw1, ← e1]; exact heap_alloc_at
  have a0 : w1.cell? ⟨W.heap.size, 0, none⟩ = some (.int .i64 i) := cell_of ha rfl
  have a1 : w1.cell? ⟨W.heap.size, 1, none⟩ = some (.int .i64 g) := cell_of ha rfl
  have b0 : w1.cell? ⟨W.heap.size + 1, 0, none⟩ = some (.int .i64 i') := cell_of hb rfl
  have b1 : w1.cell? ⟨W.heap.size + 1, 1, none⟩ = some (.int .i64 g') := cell_of hb rfl
  have hfin : ∀ o, ∃ q os', (w1.alloc o).drew = grow (W.drewN q) os' := fun o => ⟨1, #[.cells #[.int .i64 i, .int .i64 g] 39, .cells #[.int .i64 i', .int .i64 g'] 39, o], by
    rw [← hw1, alloc_eq_grow, alloc_eq_grow, alloc_eq_grow, grow_grow, grow_grow]
    rfl⟩
  have H1 := Lib.hid hw1
  have HF := Lib.hid hfin
  clear hw1 hfin ha hb
  go_enter Try.func45, Try.ntmps45
  go_upto_region 1 with (fail)
  rw [H1.out]
  refine wp_region_x (fun w' => w'.cell? ⟨W.heap.size, 0, none⟩ = some (.int .i64 i) ∧ w'.cell? ⟨W.heap.size, 1, none⟩ = some (.int .i64 g) ∧ w'.cell? ⟨W.heap.size + 1, 0, none⟩ = some (.int .i64 i') ∧ w'.cell? ⟨W.heap.size + 1, 1, none⟩ = some (.int .i64 g')) [(0, 1), (1, 0), (2, 1), (3, 0), (5, 1), (6, 0), (7, 1), (8, 0), (4, 2), (9, 2), (10, 2), (11, 2), (12, 1)] (by kernel_rfl) (by kernel_rfl) (by intro d v c a w h; cases d <;> exact h) ?_
  have hS : w1.drew.cell? ⟨W.heap.size, 0, none⟩ = some (.int .i64 i) ∧ w1.drew.cell? ⟨W.heap.size, 1, none⟩ = some (.int .i64 g) ∧ w1.drew.cell? ⟨W.heap.size + 1, 0, none⟩ = some (.int .i64 i') ∧ w1.drew.cell? ⟨W.heap.size + 1, 1, none⟩ = some (.int .i64 g') := ⟨a0, a1, b0, b1⟩
  iterate 1 (refine x_take rfl (fun K hK => ?_); go_simp; refine hK _ ?_; clear hK K)
  refine x_read rfl hS (fun w' h => exec_load1 ⟨⟨_, Try.underlying3, rfl⟩⟩ rfl h.1) ?_
  iterate 1 (refine x_take rfl (fun K hK => ?_); go_simp; refine hK _ ?_; clear hK K)
  refine x_read rfl hS (fun w' h => exec_load1 ⟨⟨_, Try.underlying3, rfl⟩⟩ rfl h.2.2.1) ?_
  iterate 1 (refine x_take rfl (fun K hK => ?_); go_simp; refine hK _ ?_; clear hK K)
  refine x_read rfl hS (fun w' h => exec_load1 ⟨⟨_, Try.underlying3, rfl⟩⟩ rfl h.2.1) ?_
  iterate 1 (refine x_take rfl (fun K hK => ?_); go_simp; refine hK _ ?_; clear hK K)
  refine x_read rfl hS (fun w' h => exec_load1 ⟨⟨_, Try.underlying3, rfl⟩⟩ rfl h.2.2.2) ?_
  refine x_show' rfl (fun K hK => ?_)
  go_simp
  refine (compare_any _ i i').mono ?_
  rintro e w' ⟨rfl, hw⟩
  obtain rfl := hw.symm
  refine hK _ _ hS ?_
  clear hK K hw
  refine x_show' rfl (fun K hK => ?_)
  go_simp
  refine (compare_any _ g g').mono ?_
  rintro e w' ⟨rfl, hw⟩
  obtain rfl := hw.symm
  refine hK _ _ hS ?_
  clear hK K hw
  refine x_show' rfl (fun K hK => ?_)
  go_simp
  have hal : ∀ p v, w1.drew.cell? p = some v → ((w1.alloc (.cells #[.int .i64 (cmpI i i'), .int .i64 (cmpI g g')] 3)).drew).cell? p = some v := fun p v h => by
    have : w1.cell? p = some v := h
    have hlt : p.block < w1.heap.size := by
      unfold World.cell? at this
      cases hq : w1.heap[p.block]? with
      | none => simp [hq] at this
      | some o => exact lt_of_block hq
    exact (World.cell?_alloc_lt _ _ _ hlt).trans this
  have hS2 := And.intro (hal _ _ hS.1) (And.intro (hal _ _ hS.2.1) (And.intro (hal _ _ hS.2.2.1) (hal _ _ hS.2.2.2)))
  have s0 : ((w1.alloc (.cells #[.int .i64 (cmpI i i'), .int .i64 (cmpI g g')] 3)).drew).cell? ⟨W.heap.size + 2, 0, none⟩ = some (.int .i64 (cmpI i i')) := by rw [← hsz]; exact cell_of heap_alloc_at rfl
  have s1 : ((w1.alloc (.cells #[.int .i64 (cmpI i i'), .int .i64 (cmpI g g')] 3)).drew).cell? ⟨W.heap.size + 2, 1, none⟩ = some (.int .i64 (cmpI g g')) := by rw [← hsz]; exact cell_of heap_alloc_at rfl
  have hF := HF.out (.cells #[.int .i64 (cmpI i i'), .int .i64 (cmpI g g')] 3)
  have hor := or_any _ (W.heap.size + 2) (cmpI i i') (cmpI g g') s0 s1
  have hcf : cmpF (i, g) (i', g') = if cmpI i i' ≠ 0 then cmpI i i' else cmpI g g' := rfl
  rw [← hcf] at hor
  obtain ⟨r, hr⟩ : ∃ r, cmpF (i, g) (i', g') = r := ⟨_, rfl⟩
  rw [hr] at hor
  have HC := Lib.hid hr
  clear hcf hr
  generalize (w1.alloc (.cells #[.int .i64 (cmpI i i'), .int .i64 (cmpI g g')] 3)).drew = w2 at *
  refine hK _ _ hS2 ?_
  clear hK K
  refine x_show' rfl (fun K hK => ?_)
  go_simp
  refine hor.mono ?_
  rintro e w' ⟨rfl, hw⟩
  obtain rfl := hw.symm
  refine hK _ _ hS2 ?_
  clear hK K hw
  iterate 1 (refine x_take rfl (fun K hK => ?_); go_simp; refine hK _ ?_; clear hK K)
  refine x_nil ?_
  go_wp2
  go_ret
  exact ⟨by rw [HC.out]; rfl, hF⟩
end Go.Proofs.Ythckjciblngaaaa
