/- Trees: what a node is; what a creation must answer. -/
import Derived.Test.YteafnipciofamaaAb
namespace Go.Proofs.Yteafnipciofamaa
open Go.RowKit Go.Tn Go.Tn.Names

section
variable {w w' : World} {t mn mm : Nat} {L : Ents Fi} {c : Nat} {M : Ents Int} {d : Nat}
theorem Tr.c0 (h : Tr w t mn mm L c M d) : w.cell? ⟨t, 0, none⟩ = some (.map (some mn)) := cell_of h.blk rfl
theorem Tr.c1 (h : Tr w t mn mm L c M d) : w.cell? ⟨t, 1, none⟩ = some (.map (some mm)) := cell_of h.blk rfl
theorem Tr.mod {S : Nat → Prop} (h : Tr w t mn mm L c M d) (hm : Mod S w w') (h1 : ¬ S t) (h2 : ¬ S mn) (h3 : ¬ S mm) : Tr w' t mn mm L c M d :=
  ⟨hm.heap h.blk h1, hm.heap h.nodes h2, hm.heap h.most h3⟩
theorem Tr.below (h : Tr w t mn mm L c M d) (hb : Below w.heap.size w w') : Tr w' t mn mm L c M d :=
  h.mod (Mod.of_below hb) (Nat.not_le.2 (lt_of_block h.blk)) (Nat.not_le.2 (lt_of_block h.nodes)) (Nat.not_le.2 (lt_of_block h.most))
theorem Nd.mod {S : Nat → Prop} {r mr : Nat} {cs : Array Value} {E : Ents ByteArray} {ce : Nat} (h : Nd w r mr cs E ce) (hm : Mod S w w') (h1 : ¬ S r) (h2 : ¬ S mr) : Nd w' r mr cs E ce :=
  ⟨hm.heap h.blk h1, h.c1, h.sz, hm.heap h.names h2⟩
theorem Nd.below {r mr : Nat} {cs : Array Value} {E : Ents ByteArray} {ce : Nat} (h : Nd w r mr cs E ce) (hb : Below w.heap.size w w') : Nd w' r mr cs E ce :=
  h.mod (Mod.of_below hb) (Nat.not_le.2 (lt_of_block h.blk)) (Nat.not_le.2 (lt_of_block h.names))
theorem ok_yes (h : Tr w t mn mm L c M d) : Calls Try.prog 14 #[.pointer (some ⟨t, 0, none⟩)] w fun e w' => e = .returned (.bool true) ∧ w' = w := by
  have nmap := fun w => run_neq_map_nil (P := Try.prog) w 28 23 46 (some mn) Try.underlying28
  have c0 := h.c0
  go_enter Try.func14, Try.ntmps14
  go_wp2
  go_ret
  exact ⟨rfl, rfl⟩
theorem zeroP : ∀ w, (zeroValue 46).run Try.prog w = .ok (.pointer none) w := fun w => by kernel_rfl
theorem zeroI : ∀ w, (zeroValue 3).run Try.prog w = .ok (.int .i64 0) w := fun w => by kernel_rfl
theorem zeroE : ∀ w, (zeroValue 60).run Try.prog w = .ok (.agg #[.string ⟨#[]⟩, .int .i64 0, .int .i64 0, .int .i64 0]) w := fun w => by kernel_rfl

structure OS (t mn bx : Nat) (i g : Int) (L : Ents Fi) (c : Nat) (w : World) : Prop where
  c0 : w.cell? ⟨t, 0, none⟩ = some (.map (some mn))
  map : w.heap[mn]? = some (.map (ents encF L) c)
  box : Lies w bx 0 #[.int .i64 i, .int .i64 g]
theorem of_yes (h : Tr w t mn mm L c M d) (i g k : Int) {r : Nat} (hg : Go.Tn.get (i, g) L = some (.pointer (some ⟨r, 0, none⟩))) (hk : w.cell? ⟨r, 0, none⟩ = some (.int .i64 k)) :
    Calls Try.prog 15 #[.pointer (some ⟨t, 0, none⟩), .agg #[.int .i64 i, .int .i64 g], .int .i64 k] w
    fun e w' => e = .returned (.tuple #[.pointer (some ⟨r, 0, none⟩), .int .i64 0]) ∧ Below w.heap.size w w' := by
  have hb : Below w.heap.size w (w.alloc (.cells #[.int .i64 i, .int .i64 g] 23)) := (Below.refl _ _).alloc (Nat.le_refl _) _
  have hS : OS t mn w.heap.size i g L c (w.alloc (.cells #[.int .i64 i, .int .i64 g] 23)).drew := ⟨(h.below hb).c0, (h.below hb).nodes, lies_of heap_alloc_at⟩
  have hG := Lib.hid (show Go.Tn.getD (i, g) L (.pointer none) = .pointer (some ⟨r, 0, none⟩) by unfold Go.Tn.getD; rw [hg]; rfl)
  have hk' : (w.alloc (.cells #[.int .i64 i, .int .i64 g] 23)).drew.cell? ⟨r, 0, none⟩ = some (.int .i64 k) := (hb.cell (p := ⟨r, 0, none⟩) (World.block_lt_of_cell? w _ hk)).trans hk
  clear h hg
  go_enter Try.func15, Try.ntmps15
  go_upto_region 1 with fail
  refine wp_region_x (OS t mn w.heap.size i g L c) [(0, 1), (1, 1), (2, 1), (3, 0), (4, 0), (5, 0), (6, 1)] (by kernel_rfl) (by kernel_rfl) (by intro d v c a w h; cases d <;> exact h) ?_
  iterate 3 (refine x_take rfl (fun K hK => ?_); go_simp; refine hK _ ?_; clear hK K)
  refine x_read rfl hS (fun w' h => exec_load1 ⟨⟨_, Try.underlying28, rfl⟩⟩ rfl h.c0) ?_
  refine x_read rfl hS (fun w' h => exec_loadA (aggF _ _) rfl h.box) ?_
  refine x_read rfl hS (fun w' h => exec_lookup keyF Try.underlying28 zeroP h.map rfl (i, g) rfl) ?_
  rw [hG.out]
  iterate 1 (refine x_take rfl (fun K hK => ?_); go_simp; refine hK _ ?_; clear hK K)
  refine x_nil ?_
  go_wp2
  go_ret2
  exact ⟨rfl, hb.drew⟩
end
/-- A call that makes a file or a directory. -/
structure MS (r mr bx : Nat) (cs : Array Value) (E : Ents ByteArray) (ce : Nat) (w : World) : Prop where
  c1 : w.cell? ⟨r, 1, none⟩ = some (.map (some mr))
  map : w.heap[mr]? = some (.map (ents encS E) ce)
  box : Lies w bx 0 cs
theorem MS.below {r mr bx ce : Nat} {cs : Array Value} {E : Ents ByteArray} {w w' : World} (h : MS r mr bx cs E ce w) (h0 : 0 < cs.size) (hb : Below w.heap.size w w') : MS r mr bx cs E ce w' :=
  ⟨(hb.cell (p := ⟨r, 1, none⟩) (World.block_lt_of_cell? w _ h.c1)).trans h.c1, (hb.block _ (lt_of_block h.map)).trans h.map, h.box.below' hb (World.block_lt_of_cell? w _ (h.box 0 h0))⟩
set_option maxRecDepth 20000 in
theorem must_make {w : World} {t r mr ce : Nat} {cs : Array Value} {E : Ents ByteArray} (hn : Nd w r mr cs E ce) (fi fg di dg at_ : Int) (nm ot da : ByteArray) (there : Bool) (ho : (Go.Tn.get nm E).isSome = there) {x0 : ByteArray} {x1 x2 x3 : Int} (hx : Go.Tn.getD nm E (.agg #[.string ⟨#[]⟩, .int .i64 0, .int .i64 0, .int .i64 0]) = .agg #[.string x0, .int .i64 x1, .int .i64 x2, .int .i64 x3]) :
    Calls Try.prog 18 #[.pointer (some ⟨t, 0, none⟩), .agg #[.int .i64 2, .int .i64 fi, .int .i64 fg, .int .i64 di, .int .i64 dg, .string nm, .string ot, .int .i64 at_, .string da], .pointer (some ⟨r, 0, none⟩)] w
    fun e w' => e = .returned (.int .i64 (if there then 10 else 0)) ∧ Below w.heap.size w w' := by
  have hb : Below w.heap.size w (w.alloc (.cells #[.int .i64 2, .int .i64 fi, .int .i64 fg, .int .i64 di, .int .i64 dg, .string nm, .string ot, .int .i64 at_, .string da] 25)) := (Below.refl _ _).alloc (Nat.le_refl _) _
  have hS : MS r mr w.heap.size #[.int .i64 2, .int .i64 fi, .int .i64 fg, .int .i64 di, .int .i64 dg, .string nm, .string ot, .int .i64 at_, .string da] E ce (w.alloc (.cells #[.int .i64 2, .int .i64 fi, .int .i64 fg, .int .i64 di, .int .i64 dg, .string nm, .string ot, .int .i64 at_, .string da] 25)).drew :=
    ⟨cell_of (hn.below hb).blk (hn.below hb).c1, (hn.below hb).names, lies_of heap_alloc_at⟩
  have HX := Lib.hid hx
  have HO := Lib.hid ho
  clear hx ho hn
  go_enter Try.func18, Try.ntmps18
  go_upto_region 1 with fail
  refine wp_region_x (MS r mr w.heap.size #[.int .i64 2, .int .i64 fi, .int .i64 fg, .int .i64 di, .int .i64 dg, .string nm, .string ot, .int .i64 at_, .string da] E ce) [(0, 1), (1, 1), (2, 1), (3, 0), (4, 1), (5, 0), (6, 0), (7, 1), (8, 1), (9, 1), (10, 2), (11, 3), (12, 1)] (by kernel_rfl) (by kernel_rfl) (by intro d v c a w h; cases d <;> exact h) ?_
  iterate 3 (refine x_take rfl (fun K hK => ?_); go_simp; refine hK _ ?_; clear hK K)
  refine x_read rfl hS (fun w' h => exec_load1 ⟨⟨_, Try.underlying48, rfl⟩⟩ rfl h.c1) ?_
  iterate 1 (refine x_take rfl (fun K hK => ?_); go_simp; refine hK _ ?_; clear hK K)
  refine x_read rfl hS (fun w' h => exec_load1 ⟨⟨_, Try.underlying9, rfl⟩⟩ rfl (h.box 5 (by simp))) ?_
  refine x_read rfl hS (fun w' h => exec_lookup_ok keyS Try.underlying48 zeroE h.map rfl nm rfl) ?_
  rw [HX.out, HO.out]
  iterate 3 (refine x_take rfl (fun K hK => ?_); go_simp; refine hK _ ?_; clear hK K)
  refine x_show' rfl (fun K hK => ?_)
  go_simp
  refine hK _ _ (hS.below (by simp) ((Below.refl _ _).alloc (Nat.le_refl _) _)) ?_
  clear hK K
  refine x_exec' rfl (fun K hK => ?_)
  go_simp
  refine hK _ _ ?_
  clear hK K
  iterate 1 (refine x_take rfl (fun K hK => ?_); go_simp; refine hK _ ?_; clear hK K)
  refine x_nil ?_
  cases there
  all_goals
    go_wp2_with fail
    go_ret
    exact ⟨rfl, hb.drew.alloc (by simp) _⟩
end Go.Proofs.Yteafnipciofamaa
