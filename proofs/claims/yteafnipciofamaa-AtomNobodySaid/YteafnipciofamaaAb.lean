/- Trees: a call cut short; a new tree; what a node is. -/
import Derived.Test.YteafnipciofamaaAa
import Derived.Deep.LoopGhost
import Derived.Deep.DeepCutAuto
import Derived.Deep.CutBlock
namespace Go.Proofs.Yteafnipciofamaa
open Go.RowKit Go.Tn

theorem CV.lies (w : World) (c : CV) (T : TypeId) : Lies (w.alloc (.cells c.cs T)) w.heap.size 0 c.cs := lies_of heap_alloc_at

/-- A tree's own blocks. -/
structure Tr (w : World) (t mn mm : Nat) (L : Ents Fi) (c : Nat) (M : Ents Int) (d : Nat) : Prop where
  blk : w.heap[t]? = some (.cells #[.map (some mn), .map (some mm)] 31 (0, 0))
  nodes : w.heap[mn]? = some (.map (ents encF L) c)
  most : w.heap[mm]? = some (.map (ents encI M) d)
/-- A node's. -/
structure Nd (w : World) (r mr : Nat) (cs : Array Value) (E : Ents ByteArray) (c : Nat) : Prop where
  blk : w.heap[r]? = some (.cells cs 51 (0, 0))
  c1 : cs[1]? = some (.map (some mr))
  sz : cs.size = 10
  names : w.heap[mr]? = some (.map (ents encS E) c)
def freshCs (k : Int) (mr : Nat) : Array Value := #[.int .i64 k, .map (some mr), .string ⟨#[]⟩, .string ⟨#[]⟩, .string ⟨#[]⟩, .string ⟨#[]⟩, .string ⟨#[]⟩, .string ⟨#[]⟩, .string ⟨#[]⟩, .string ⟨#[]⟩]
theorem root_any (w : World) : Calls Try.prog 33 #[] w fun e w' => e = .returned (.agg #[.int .i64 1, .int .i64 1]) ∧ Below w.heap.size w w' := by
  go_enter Try.func33, Try.ntmps33
  go_wp2_with fail
  (try simp only [Exit.inBlock, Exit.then])
  refine bodyPost_ret (results_cellA rfl _ rfl (aggF 1 1) (lies_of heap_alloc_at)) rfl ?_
  exact ⟨rfl, (Below.refl _ _).alloc (Nat.le_refl _) _⟩
theorem fresh_any (w : World) (k : Int) : Calls Try.prog 34 #[.int .i64 k] w fun e w' => e = .returned (.pointer (some ⟨w.heap.size + 1, 0, none⟩)) ∧ Nd w' (w.heap.size + 1) w.heap.size (freshCs k w.heap.size) [] 0 ∧ Below w.heap.size w w' ∧ w'.heap.size = w.heap.size + 2 := by
  have hmm := @run_makeMap Try.prog
  go_enter Try.func34, Try.ntmps34
  go_wp2_with fail
  go_ret
  have e : (w.alloc (.map #[] 0)).heap.size = w.heap.size + 1 := by simp
  refine ⟨rfl, ⟨?_, rfl, rfl, heap_alloc_of heap_alloc_at⟩, ((Below.refl _ _).alloc (Nat.le_refl _) _).alloc (by simp) _, by simp⟩
  rw [← e]
  exact heap_alloc_at
theorem shortC_any (w : World) (c : CV) (h1 : c.nm.size ≤ maxLen) (h2 : c.ot.size ≤ maxLen) (h3 : c.da.size ≤ maxLen) : Calls Try.prog 4 #[.agg c.cs] w fun e w' => ∃ c' : CV, e = .returned (.agg c'.cs) ∧ Below w.heap.size w w' := by
  obtain ⟨k, fi, fg, di, dg, nm, ot, at_, da⟩ := c
  simp only at h1 h2 h3
  simp only [CV.cs]
  have hb : Below w.heap.size w (w.alloc (.cells #[.int .i64 k, .int .i64 fi, .int .i64 fg, .int .i64 di, .int .i64 dg, .string nm, .string ot, .int .i64 at_, .string da] 25)) := (Below.refl _ _).alloc (Nat.le_refl _) _
  go_enter Try.func4, Try.ntmps4
  go_upto_region 1 with fail
  have hS : Lies (((w.alloc (.cells #[.int .i64 k, .int .i64 fi, .int .i64 fg, .int .i64 di, .int .i64 dg, .string nm, .string ot, .int .i64 at_, .string da] 25)).alloc (.cells #[.int .i64 0, .int .i64 0, .int .i64 0, .int .i64 0, .int .i64 0, .string ⟨#[]⟩, .string ⟨#[]⟩, .int .i64 0, .string ⟨#[]⟩] 25)).drew) w.heap.size 0 #[.int .i64 k, .int .i64 fi, .int .i64 fg, .int .i64 di, .int .i64 dg, .string nm, .string ot, .int .i64 at_, .string da] := lies_of (heap_alloc_of heap_alloc_at)
  refine wp_region_x (fun w' => Lies w' w.heap.size 0 #[.int .i64 k, .int .i64 fi, .int .i64 fg, .int .i64 di, .int .i64 dg, .string nm, .string ot, .int .i64 at_, .string da]) [(0, 1), (1, 0), (3, 1), (4, 0), (6, 1), (7, 0), (2, 2), (9, 1), (5, 2), (8, 2), (10, 3), (11, 1), (12, 3), (13, 1), (14, 3)] (by kernel_rfl) (by kernel_rfl) (by intro d v c a w h; cases d <;> exact h) ?_
  iterate 1 (refine x_take rfl (fun K hK => ?_); go_simp; refine hK _ ?_; clear hK K)
  refine x_read rfl hS (fun w' h => exec_load1 ⟨⟨_, Try.underlying9, rfl⟩⟩ rfl (h 5 (by simp))) ?_
  iterate 1 (refine x_take rfl (fun K hK => ?_); go_simp; refine hK _ ?_; clear hK K)
  refine x_read rfl hS (fun w' h => exec_load1 ⟨⟨_, Try.underlying9, rfl⟩⟩ rfl (h 6 (by simp))) ?_
  iterate 1 (refine x_take rfl (fun K hK => ?_); go_simp; refine hK _ ?_; clear hK K)
  refine x_read rfl hS (fun w' h => exec_load1 ⟨⟨_, Try.underlying9, rfl⟩⟩ rfl (h 8 (by simp))) ?_
  refine x_show' rfl (fun K hK => ?_)
  go_simp
  refine (short_any _ nm 20 h1 (by decide)).mono ?_
  rintro e w3 ⟨t1, rfl, _, _, hw⟩
  obtain rfl := hw.symm
  refine hK _ _ hS ?_
  clear hw hK K
  iterate 1 (refine x_take rfl (fun K hK => ?_); go_simp; refine hK _ ?_; clear hK K)
  refine x_show' rfl (fun K hK => ?_)
  go_simp
  refine (short_any _ ot 20 h2 (by decide)).mono ?_
  rintro e w3 ⟨t2, rfl, _, _, hw⟩
  obtain rfl := hw.symm
  refine hK _ _ hS ?_
  clear hw hK K
  refine x_show' rfl (fun K hK => ?_)
  go_simp
  refine (short_any _ da 70 h3 (by decide)).mono ?_
  rintro e w3 ⟨t3, rfl, _, _, hw⟩
  obtain rfl := hw.symm
  refine hK _ _ hS ?_
  clear hw hK K
  refine x_exec' rfl (fun K hK => ?_)
  go_simp
  refine hK _ _ ?_
  clear hK K
  iterate 1 (refine x_take rfl (fun K hK => ?_); go_simp; refine hK _ ?_; clear hK K)
  refine x_exec' rfl (fun K hK => ?_)
  go_simp
  refine hK _ _ ?_
  clear hK K
  iterate 1 (refine x_take rfl (fun K hK => ?_); go_simp; refine hK _ ?_; clear hK K)
  refine x_exec' rfl (fun K hK => ?_)
  go_simp
  refine hK _ _ ?_
  clear hK K
  refine x_nil ?_
  go_wp2_with fail
  (try simp only [Exit.inBlock, Exit.then])
  have e : (w.alloc (.cells #[.int .i64 k, .int .i64 fi, .int .i64 fg, .int .i64 di, .int .i64 dg, .string t1, .string t2, .int .i64 at_, .string t3] 25)).heap.size = w.heap.size + 1 := by simp
  refine bodyPost_ret (results_cellA rfl _ rfl (aggC ⟨k, fi, fg, di, dg, t1, t2, at_, t3⟩) (lies_of (t := 25) (fr := (0, 0)) ?_)) rfl ?_
  · rw [← e]
    exact heap_alloc_at
  · exact ⟨⟨k, fi, fg, di, dg, t1, t2, at_, t3⟩, rfl, (((Below.refl _ _).alloc (Nat.le_refl _) _).alloc (by simp) _).drew⟩
set_option maxRecDepth 20000 in
theorem new_any (w : World) : Calls Try.prog 23 #[] w fun e w' => ∃ t mn mm r mr, e = .returned (.pointer (some ⟨t, 0, none⟩)) ∧ Tr w' t mn mm [((1, 1), .pointer (some ⟨r, 0, none⟩), 0)] 1 [(1, .int .i64 1, 0)] 1 ∧ Nd w' r mr (freshCs 1 mr) [] 0 ∧ mn < mr ∧ mr < r ∧ r < mm ∧ mm < t ∧ w.heap.size ≤ mn ∧ Below w.heap.size w w' := by
  have hmm := @run_makeMap Try.prog
  go_enter Try.func23, Try.ntmps23
  go_wp2_with fail
  refine (root_any _).mono ?_
  rintro e w2 ⟨rfl, hb2⟩
  have hm2 := (hb2.block w.heap.size (by simp)).trans heap_alloc_at
  have hs2 : w.heap.size + 1 ≤ w2.heap.size := by simpa using hb2.size
  go_wp2_with fail
  refine (fresh_any w2 1).mono ?_
  rintro e w3 ⟨rfl, hn3, hb3, hs3⟩
  have hm3 : w3.heap[w.heap.size]? = some (.map (ents encF []) 0) := (hb3.block w.heap.size (by omega)).trans hm2
  have hI : ∀ o, ((setObjW w3 w.heap.size o).alloc (.map #[] 0)).heap[w2.heap.size + 2]? = some (.map (ents encI []) 0) := fun o => by
    have e : (setObjW w3 w.heap.size o).heap.size = w2.heap.size + 2 := by simp [setObjW, hs3]
    rw [← e]
    exact heap_alloc_at
  go_wp2_with (first
    | ((with_reducible refine wpList_execSkip rfl (exec_insert keyF Try.underlying28 hm3 ?_ (1, 1) ?_) ?_); rfl; rfl; go_frame)
    | ((with_reducible refine wpList_execSkip rfl (exec_insert keyI Try.underlying29 (hI _) ?_ 1 ?_) ?_); rfl; rfl; go_frame)
    | fail)
  go_ret
  have z1 : ∀ (w : World) r o, (setObjW w r o).heap.size = w.heap.size := fun w r o => by simp [setObjW]
  have z2 : ∀ (w : World) o, (w.alloc o).heap.size = w.heap.size + 1 := fun w o => by simp
  have hb23 : Below w.heap.size w w3 := (((Below.refl _ _).alloc (Nat.le_refl _) _).trans (hb2.mono (by simp))).trans (hb3.mono (by omega))
  refine ⟨_, w.heap.size, w2.heap.size + 2, w2.heap.size + 1, w2.heap.size, rfl, ⟨?_, heap_alloc_of ((setObjW_ne (by omega)).trans (heap_alloc_of (setObjW_at (by omega)))), heap_alloc_of (setObjW_at (by rw [z2, z1]; omega))⟩, ⟨heap_alloc_of ((setObjW_ne (by omega)).trans (heap_alloc_of ((setObjW_ne (by omega)).trans hn3.blk))), rfl, rfl, heap_alloc_of ((setObjW_ne (by omega)).trans (heap_alloc_of ((setObjW_ne (by omega)).trans hn3.names)))⟩, by omega, by omega, by omega, by omega, Nat.le_refl _, ?_⟩
  · have e : ∀ o1 o2, (setObjW ((setObjW w3 w.heap.size o1).alloc (.map #[] 0)) (w2.heap.size + 2) o2).heap.size = w2.heap.size + 2 + 1 := fun o1 o2 => by rw [z1, z2, z1, hs3]
    rw [← e]
    exact heap_alloc_at
  · have m : ∀ {B r : Nat} {w w' : World} {o : Obj}, Below B w w' → B ≤ w'.heap.size → B ≤ r → Below B w (setObjW w' r o) := fun h hB hr => h.trans ((setObjW_mod _ _).below hB fun x hx e => by omega)
    refine (m ((m hb23 (by omega) (Nat.le_refl _)).alloc (by rw [z1]; omega) _) (by rw [z2, z1]; omega) (by omega)).alloc (by rw [z1, z2, z1]; omega) _
end Go.Proofs.Yteafnipciofamaa
