/- Trees: a file is made. -/
import Derived.Test.YteafnipciofamaaAd
namespace Go.Proofs.Yteafnipciofamaa
open Go.RowKit Go.Tn Go.Tn.Names

/-- What a tree's reads look at. -/
structure TS (t mn mm : Nat) (L : Ents Fi) (c : Nat) (M : Ents Int) (d : Nat) (w : World) : Prop where
  c0 : w.cell? ⟨t, 0, none⟩ = some (.map (some mn))
  c1 : w.cell? ⟨t, 1, none⟩ = some (.map (some mm))
  nodes : w.heap[mn]? = some (.map (ents encF L) c)
  most : w.heap[mm]? = some (.map (ents encI M) d)
theorem Tr.ts {w : World} {t mn mm : Nat} {L : Ents Fi} {c : Nat} {M : Ents Int} {d : Nat} (h : Tr w t mn mm L c M d) : TS t mn mm L c M d w := ⟨h.c0, h.c1, h.nodes, h.most⟩
theorem TS.below {w w' : World} {t mn mm : Nat} {L : Ents Fi} {c : Nat} {M : Ents Int} {d : Nat} (h : TS t mn mm L c M d w) (hb : Below w.heap.size w w') : TS t mn mm L c M d w' :=
  ⟨(hb.cell (p := ⟨t, 0, none⟩) (World.block_lt_of_cell? w _ h.c0)).trans h.c0, (hb.cell (p := ⟨t, 1, none⟩) (World.block_lt_of_cell? w _ h.c1)).trans h.c1, (hb.block _ (lt_of_block h.nodes)).trans h.nodes, (hb.block _ (lt_of_block h.most)).trans h.most⟩

theorem tlives_no {w : World} {t mn mm : Nat} {L : Ents Fi} {c : Nat} {M : Ents Int} {d : Nat} (h : TS t mn mm L c M d w) {i m : Int} (hm : Go.Tn.getD i M (.int .i64 0) = .int .i64 m) (hg : Go.Tn.get (i, m) L = none) :
    Calls Try.prog 40 #[.pointer (some ⟨t, 0, none⟩), .int .i64 i] w fun e w' => e = .returned (.bool false) ∧ Below w.heap.size w w' := by
  have hS : TS t mn mm L c M d w.drew := ⟨h.c0, h.c1, h.nodes, h.most⟩
  have HG := Lib.hid (show Go.Tn.getD (i, m) L (.pointer none) = .pointer none by unfold Go.Tn.getD; rw [hg]; rfl)
  have HM := Lib.hid hm
  clear hg hm
  go_enter Try.func40, Try.ntmps40
  go_upto_region 1 with fail
  refine wp_region_x (TS t mn mm L c M d) [(0, 1), (1, 1), (2, 1), (3, 0), (4, 1), (5, 1), (6, 1), (7, 1), (8, 0), (9, 1), (10, 0), (11, 1), (12, 0), (13, 1), (14, 1)] (by kernel_rfl) (by kernel_rfl) (by intro d v c a w h; cases d <;> exact h) ?_
  iterate 3 (refine x_take rfl (fun K hK => ?_); go_simp; refine hK _ ?_; clear hK K)
  refine x_read rfl hS (fun w' h => exec_load1 ⟨⟨_, Try.underlying28, rfl⟩⟩ rfl h.c0) ?_
  iterate 4 (refine x_take rfl (fun K hK => ?_); go_simp; refine hK _ ?_; clear hK K)
  refine x_read rfl hS (fun w' h => exec_load1 ⟨⟨_, Try.underlying29, rfl⟩⟩ rfl h.c1) ?_
  iterate 1 (refine x_take rfl (fun K hK => ?_); go_simp; refine hK _ ?_; clear hK K)
  refine x_read rfl hS (fun w' h => exec_lookup keyI Try.underlying29 zeroI h.most rfl i rfl) ?_
  rw [HM.out]
  iterate 1 (refine x_take rfl (fun K hK => ?_); go_simp; refine hK _ ?_; clear hK K)
  refine x_read rfl hS (fun w' h => exec_lookup keyF Try.underlying28 zeroP h.nodes rfl (i, m) rfl) ?_
  rw [HG.out]
  iterate 2 (refine x_take rfl (fun K hK => ?_); go_simp; refine hK _ ?_; clear hK K)
  refine x_nil ?_
  go_wp2
  go_ret
  exact ⟨rfl, (Below.refl _ _).drew⟩

/-- What the making reads. -/
structure KS (t mn mm cb rb : Nat) (CC RR : Array Value) (L : Ents Fi) (c : Nat) (M : Ents Int) (d : Nat) (w : World) : Prop where
  ts : TS t mn mm L c M d w
  cbx : Lies w cb 0 CC
  rbx : Lies w rb 0 RR
theorem KS.below {t mn mm cb rb : Nat} {CC RR : Array Value} {L : Ents Fi} {c : Nat} {M : Ents Int} {d : Nat} {w w' : World} (h : KS t mn mm cb rb CC RR L c M d w) (h1 : 0 < CC.size) (h2 : 0 < RR.size) (hb : Below w.heap.size w w') : KS t mn mm cb rb CC RR L c M d w' :=
  ⟨h.ts.below hb, h.cbx.below' hb (World.block_lt_of_cell? w _ (h.cbx 0 h1)), h.rbx.below' hb (World.block_lt_of_cell? w _ (h.rbx 0 h2))⟩
theorem lies_part {w : World} {b o n : Nat} {cs ds : Array Value} (h : Lies w b 0 cs) (hn : ds.size = n) (hd : ∀ j, j < n → cs[o + j]? = ds[j]?) : Lies w b o ds := fun j hj => by
  have e := hd j (by omega)
  rw [Array.getElem?_eq_getElem hj] at e
  obtain ⟨hlt, he⟩ := Array.getElem?_eq_some_iff.1 e
  have := h (o + j) hlt
  rw [Nat.zero_add] at this
  rw [this, he]
/-- With the file's own box and the directory. -/
structure NS (t mn mm cb rb fb r mr ce : Nat) (CC RR : Array Value) (L : Ents Fi) (c : Nat) (M : Ents Int) (d : Nat) (w : World) : Prop where
  ks : KS t mn mm cb rb CC RR L c M d w
  fbx : Lies w fb 0 #[.int .i64 2, .int .i64 1]
  c1 : w.cell? ⟨r, 1, none⟩ = some (.map (some mr))
  map : w.heap[mr]? = some (.map (ents encS []) ce)
theorem NS.below {t mn mm cb rb fb r mr ce : Nat} {CC RR : Array Value} {L : Ents Fi} {c : Nat} {M : Ents Int} {d : Nat} {w w' : World} (h : NS t mn mm cb rb fb r mr ce CC RR L c M d w) (h1 : 0 < CC.size) (h2 : 0 < RR.size) (hb : Below w.heap.size w w') : NS t mn mm cb rb fb r mr ce CC RR L c M d w' :=
  ⟨h.ks.below h1 h2 hb, h.fbx.below' hb (World.block_lt_of_cell? w _ (h.fbx 0 (by simp))), (hb.cell (p := ⟨r, 1, none⟩) (World.block_lt_of_cell? w _ h.c1)).trans h.c1, (hb.block _ (lt_of_block h.map)).trans h.map⟩
theorem NS.drew {t mn mm cb rb fb r mr ce : Nat} {CC RR : Array Value} {L : Ents Fi} {c : Nat} {M : Ents Int} {d : Nat} {w : World} (h : NS t mn mm cb rb fb r mr ce CC RR L c M d w) : NS t mn mm cb rb fb r mr ce CC RR L c M d w.drew :=
  ⟨⟨⟨h.ks.ts.c0, h.ks.ts.c1, h.ks.ts.nodes, h.ks.ts.most⟩, h.ks.cbx, h.ks.rbx⟩, h.fbx, h.c1, h.map⟩
structure FS (t mn mm fb : Nat) (w : World) : Prop where
  c0 : w.cell? ⟨t, 0, none⟩ = some (.map (some mn))
  c1 : w.cell? ⟨t, 1, none⟩ = some (.map (some mm))
  fbx : Lies w fb 0 #[.int .i64 2, .int .i64 1]
theorem lies_mod {w w' : World} {b o : Nat} {cs : Array Value} {S : Nat → Prop} (h : Lies w b o cs) (hm : Mod S w w') (hS : ¬ S b) : Lies w' b o cs := fun j hj => by
  have e := h j hj
  have hlt := World.block_lt_of_cell? w _ e
  rw [← e]
  unfold World.cell?
  simp only [hm.block b hlt hS]
theorem cell_mod {w w' : World} {b o : Nat} {v : Value} {S : Nat → Prop} (h : w.cell? ⟨b, o, none⟩ = some v) (hm : Mod S w w') (hS : ¬ S b) : w'.cell? ⟨b, o, none⟩ = some v := by
  have hlt := World.block_lt_of_cell? w _ h
  rw [← h]
  unfold World.cell?
  simp only [hm.block b hlt hS]
theorem FS.mod {t mn mm fb : Nat} {w w' : World} {S : Nat → Prop} (h : FS t mn mm fb w) (hm : Mod S w w') (h1 : ¬ S t) (h2 : ¬ S fb) : FS t mn mm fb w' :=
  ⟨cell_mod h.c0 hm h1, cell_mod h.c1 hm h1, lies_mod h.fbx hm h2⟩
theorem FS.below {t mn mm fb : Nat} {w w' : World} (h : FS t mn mm fb w) (hb : Below w.heap.size w w') : FS t mn mm fb w' :=
  h.mod (Mod.of_below hb) (Nat.not_le.2 (World.block_lt_of_cell? w _ h.c0)) (Nat.not_le.2 (World.block_lt_of_cell? w _ (h.fbx 0 (by simp))))
set_option maxRecDepth 20000 in
set_option maxHeartbeats 2000000 in
theorem make_ok {w : World} {t mn mm : Nat} {L : Ents Fi} {c : Nat} {M : Ents Int} {d : Nat} (h : Tr w t mn mm L c M d) {r mr ce : Nat} {cs : Array Value} (hn : Nd w r mr cs [] ce) (hwL : WF L c) (hwM : WF M d)
    (fi fg di dg at_ : Int) (nm ot da : ByteArray) (hg : Go.Tn.get (di, dg) L = some (.pointer (some ⟨r, 0, none⟩)))
    (hm : Go.Tn.getD 2 M (.int .i64 0) = .int .i64 0) (hl : Go.Tn.get (2, 0) L = none) (hne : mn ≠ mm ∧ mn ≠ mr ∧ mm ≠ mr ∧ t ≠ mn ∧ t ≠ mm ∧ t ≠ mr ∧ r ≠ mn ∧ r ≠ mm ∧ r ≠ mr) :
    Calls Try.prog 29 #[.pointer (some ⟨t, 0, none⟩), .agg #[.int .i64 2, .int .i64 fi, .int .i64 fg, .int .i64 di, .int .i64 dg, .string nm, .string ot, .int .i64 at_, .string da], .agg #[.int .i64 0, .int .i64 2, .int .i64 1, .int .i64 0, .string ⟨#[]⟩, .slice none 0 0], .int .i64 2] w
    fun e w' => e = .returned (.bool true) ∧ ∃ r' mr', Tr w' t mn mm (upd (2, 1) (.pointer (some ⟨r', 0, none⟩)) L c) (updClk (2, 1) L c) (upd 2 (.int .i64 1) M d) (updClk 2 M d) ∧ Nd w' r mr cs (upd nm (.agg #[.string nm, .int .i64 2, .int .i64 1, .int .i64 2]) [] ce) (updClk nm [] ce) ∧ Nd w' r' mr' (freshCs 2 mr') [] 0 ∧ w.heap.size ≤ mr' ∧ w.heap.size ≤ r' ∧ Mod (fun x => x = mn ∨ x = mm ∨ x = mr) w w' := by
  have hb : Below w.heap.size w ((w.alloc (.cells #[.int .i64 2, .int .i64 fi, .int .i64 fg, .int .i64 di, .int .i64 dg, .string nm, .string ot, .int .i64 at_, .string da] 25)).alloc (.cells #[.int .i64 0, .int .i64 2, .int .i64 1, .int .i64 0, .string ⟨#[]⟩, .slice none 0 0] 39)) := ((Below.refl _ _).alloc (Nat.le_refl _) _).alloc (by simp) _
  have h1 := h.below hb
  have hn1 := hn.below hb
  have hlc : Lies ((w.alloc (.cells #[.int .i64 2, .int .i64 fi, .int .i64 fg, .int .i64 di, .int .i64 dg, .string nm, .string ot, .int .i64 at_, .string da] 25)).alloc (.cells #[.int .i64 0, .int .i64 2, .int .i64 1, .int .i64 0, .string ⟨#[]⟩, .slice none 0 0] 39)) w.heap.size 0 #[.int .i64 2, .int .i64 fi, .int .i64 fg, .int .i64 di, .int .i64 dg, .string nm, .string ot, .int .i64 at_, .string da] := lies_of (heap_alloc_of heap_alloc_at)
  have hlr : Lies ((w.alloc (.cells #[.int .i64 2, .int .i64 fi, .int .i64 fg, .int .i64 di, .int .i64 dg, .string nm, .string ot, .int .i64 at_, .string da] 25)).alloc (.cells #[.int .i64 0, .int .i64 2, .int .i64 1, .int .i64 0, .string ⟨#[]⟩, .slice none 0 0] 39)) (w.heap.size + 1) 0 #[.int .i64 0, .int .i64 2, .int .i64 1, .int .i64 0, .string ⟨#[]⟩, .slice none 0 0] := by
    have e : (w.alloc (.cells #[.int .i64 2, .int .i64 fi, .int .i64 fg, .int .i64 di, .int .i64 dg, .string nm, .string ot, .int .i64 at_, .string da] 25)).heap.size = w.heap.size + 1 := by simp
    rw [← e]
    exact lies_of heap_alloc_at
  have hlt : ((w.alloc (.cells #[.int .i64 2, .int .i64 fi, .int .i64 fg, .int .i64 di, .int .i64 dg, .string nm, .string ot, .int .i64 at_, .string da] 25)).alloc (.cells #[.int .i64 0, .int .i64 2, .int .i64 1, .int .i64 0, .string ⟨#[]⟩, .slice none 0 0] 39)).heap.size = w.heap.size + 2 := by simp
  obtain ⟨w1, hw1⟩ : ∃ w1, ((w.alloc (.cells #[.int .i64 2, .int .i64 fi, .int .i64 fg, .int .i64 di, .int .i64 dg, .string nm, .string ot, .int .i64 at_, .string da] 25)).alloc (.cells #[.int .i64 0, .int .i64 2, .int .i64 1, .int .i64 0, .string ⟨#[]⟩, .slice none 0 0] 39)) = w1 := ⟨_, rfl⟩
  rw [hw1] at h1 hn1 hlc hlr hlt hb
  have HG := Lib.hid (show Go.Tn.getD (di, dg) L (.pointer none) = .pointer (some ⟨r, 0, none⟩) by unfold Go.Tn.getD; rw [hg]; rfl)
  have HM := Lib.hid hm
  have HL := Lib.hid hl
  have hS : KS t mn mm w.heap.size (w.heap.size + 1) #[.int .i64 2, .int .i64 fi, .int .i64 fg, .int .i64 di, .int .i64 dg, .string nm, .string ot, .int .i64 at_, .string da] #[.int .i64 0, .int .i64 2, .int .i64 1, .int .i64 0, .string ⟨#[]⟩, .slice none 0 0] L c M d w1.drew := ⟨⟨h1.ts.c0, h1.ts.c1, h1.nodes, h1.most⟩, hlc, hlr⟩
  have hnm := hn.names
  have hnl := lt_of_block h.nodes
  have hml := lt_of_block h.most
  clear hg hm hl h hn
  go_enter Try.func29, Try.ntmps29
  go_upto_region 1 with fail
  clear hw1
  refine wp_region_x (KS t mn mm w.heap.size (w.heap.size + 1) #[.int .i64 2, .int .i64 fi, .int .i64 fg, .int .i64 di, .int .i64 dg, .string nm, .string ot, .int .i64 at_, .string da] #[.int .i64 0, .int .i64 2, .int .i64 1, .int .i64 0, .string ⟨#[]⟩, .slice none 0 0] L c M d) [(0, 1), (1, 1), (2, 1), (3, 0), (4, 1), (5, 0), (6, 0), (7, 1), (8, 0), (9, 2), (10, 1), (11, 3)] (by kernel_rfl) (by kernel_rfl) (by intro d v c a w h; cases d <;> exact h) ?_
  iterate 3 (refine x_take rfl (fun K hK => ?_); go_simp; refine hK _ ?_; clear hK K)
  refine x_read rfl hS (fun w' h => exec_load1 ⟨⟨_, Try.underlying28, rfl⟩⟩ rfl h.ts.c0) ?_
  iterate 1 (refine x_take rfl (fun K hK => ?_); go_simp; refine hK _ ?_; clear hK K)
  refine x_read rfl hS (fun w' h => exec_loadA (aggF di dg) rfl (lies_part h.cbx (n := 2) rfl (fun j hj => by rcases j with _ | _ | j <;> first | rfl | omega))) ?_
  refine x_read rfl hS (fun w' h => exec_lookup keyF Try.underlying28 zeroP h.ts.nodes rfl (di, dg) rfl) ?_
  rw [HG.out]
  iterate 1 (refine x_take rfl (fun K hK => ?_); go_simp; refine hK _ ?_; clear hK K)
  refine x_read rfl hS (fun w' h => exec_loadA (aggF 2 1) rfl (lies_part h.rbx (n := 2) rfl (fun j hj => by rcases j with _ | _ | j <;> first | rfl | omega))) ?_
  refine x_show' rfl (fun K hK => ?_)
  go_simp
  refine hK _ _ (hS.below (by simp) (by simp) ((Below.refl _ _).alloc (Nat.le_refl _) _)) ?_
  clear hK K
  iterate 1 (refine x_take rfl (fun K hK => ?_); go_simp; refine hK _ ?_; clear hK K)
  refine x_exec' rfl (fun K hK => ?_)
  go_simp
  refine hK _ _ ?_
  clear hK K
  refine x_nil ?_
  have hb2 : Below w1.heap.size w1 (w1.alloc (.cells #[.int .i64 2, .int .i64 1] 23)) := (Below.refl _ _).alloc (Nat.le_refl _) _
  have h2 := h1.below hb2
  have hn2 := hn1.below hb2
  have hlt1 : w.heap.size < w1.heap.size := by omega
  have hlt1' : w.heap.size + 1 < w1.heap.size := by omega
  have hlf : Lies (w1.alloc (.cells #[.int .i64 2, .int .i64 1] 23)) (w.heap.size + 2) 0 #[.int .i64 2, .int .i64 1] := by
    rw [← hlt]
    exact lies_of heap_alloc_at
  have hlc2 := hlc.below' hb2 hlt1
  have hlr2 := hlr.below' hb2 hlt1'
  have hS2 : NS t mn mm w.heap.size (w.heap.size + 1) (w.heap.size + 2) r mr ce #[.int .i64 2, .int .i64 fi, .int .i64 fg, .int .i64 di, .int .i64 dg, .string nm, .string ot, .int .i64 at_, .string da] #[.int .i64 0, .int .i64 2, .int .i64 1, .int .i64 0, .string ⟨#[]⟩, .slice none 0 0] L c M d (w1.alloc (.cells #[.int .i64 2, .int .i64 1] 23)).drew.drew :=
    ⟨⟨⟨h2.ts.c0, h2.ts.c1, h2.nodes, h2.most⟩, hlc2, hlr2⟩, hlf, cell_of hn2.blk hn2.c1, hn2.names⟩
  clear hS
  go_upto_region 2 with fail
  refine wp_region_g (NS t mn mm w.heap.size (w.heap.size + 1) (w.heap.size + 2) r mr ce #[.int .i64 2, .int .i64 fi, .int .i64 fg, .int .i64 di, .int .i64 dg, .string nm, .string ot, .int .i64 at_, .string da] #[.int .i64 0, .int .i64 2, .int .i64 1, .int .i64 0, .string ⟨#[]⟩, .slice none 0 0] L c M d) [(0, 1), (1, 0), (2, 1), (3, 1), (4, 1), (5, 0), (6, 1), (7, 1), (8, 1), (9, 1), (10, 0), (11, 1), (12, 1), (13, 1), (14, 0), (15, 1), (16, 0), (17, 0), (18, 1), (19, 1), (20, 1), (21, 1), (22, 1), (23, 0), (24, 2), (25, 1), (26, 1), (27, 1), (28, 1), (29, 1), (30, 0), (31, 0), (32, 1), (33, 1), (34, 1), (35, 1), (36, 0), (37, 1), (38, 1), (39, 1), (40, 1), (41, 0), (42, 1), (43, 1), (44, 1)] (by kernel_rfl) (by kernel_rfl) (by intro d v c a w h; cases d <;> exact h) ?_
  iterate 1 (refine g_take rfl rfl (fun K hK => ?_); go_simp; refine hK _ ?_; clear hK K)
  refine g_read rfl rfl hS2 (fun w' h => exec_load1 ⟨⟨_, Try.underlying3, rfl⟩⟩ rfl (h.fbx 0 (by simp))) ?_
  iterate 2 (refine g_take rfl rfl (fun K hK => ?_); go_simp; refine hK _ ?_; clear hK K)
  iterate 1 (refine g_take rfl rfl (fun K hK => ?_); go_simp; refine hK _ ?_; clear hK K)
  refine g_read rfl rfl hS2 (fun w' h => exec_load1 ⟨⟨_, Try.underlying3, rfl⟩⟩ rfl (h.fbx 0 (by simp))) ?_
  iterate 1 (refine g_take rfl rfl (fun K hK => ?_); go_simp; refine hK _ ?_; clear hK K)
  iterate 2 (refine g_take rfl rfl (fun K hK => ?_); go_simp; refine hK _ ?_; clear hK K)
  iterate 1 (refine g_take rfl rfl (fun K hK => ?_); go_simp; refine hK _ ?_; clear hK K)
  refine g_read rfl rfl hS2 (fun w' h => exec_load1 ⟨⟨_, Try.underlying3, rfl⟩⟩ rfl (h.fbx 1 (by simp))) ?_
  iterate 3 (refine g_take rfl rfl (fun K hK => ?_); go_simp; refine hK _ ?_; clear hK K)
  refine g_read rfl rfl hS2 (fun w' h => exec_load1 ⟨⟨_, Try.underlying29, rfl⟩⟩ rfl h.ks.ts.c1) ?_
  iterate 1 (refine g_take rfl rfl (fun K hK => ?_); go_simp; refine hK _ ?_; clear hK K)
  refine g_read rfl rfl hS2 (fun w' h => exec_load1 ⟨⟨_, Try.underlying3, rfl⟩⟩ rfl (h.fbx 0 (by simp))) ?_
  refine g_read rfl rfl hS2 (fun w' h => exec_lookup keyI Try.underlying29 zeroI h.ks.ts.most rfl 2 rfl) ?_
  rw [HM.out]
  iterate 1 (refine g_take rfl rfl (fun K hK => ?_); go_simp; refine hK _ ?_; clear hK K)
  iterate 2 (refine g_take rfl rfl (fun K hK => ?_); go_simp; refine hK _ ?_; clear hK K)
  iterate 2 (refine g_take rfl rfl (fun K hK => ?_); go_simp; refine hK _ ?_; clear hK K)
  refine g_read rfl rfl hS2 (fun w' h => exec_load1 ⟨⟨_, Try.underlying3, rfl⟩⟩ rfl (h.fbx 0 (by simp))) ?_
  refine g_show' rfl rfl (fun K hK => ?_)
  go_simp
  refine (tlives_no hS2.ks.ts HM.out HL.out).mono ?_
  rintro e w3 ⟨rfl, hb3⟩
  have hS3 := hS2.below (by simp) (by simp) hb3
  refine hK _ _ hS3 ?_
  clear hK K
  iterate 2 (refine g_take rfl rfl (fun K hK => ?_); go_simp; refine hK _ ?_; clear hK K)
  iterate 3 (refine g_take rfl rfl (fun K hK => ?_); go_simp; refine hK _ ?_; clear hK K)
  refine g_read rfl rfl hS3 (fun w' h => exec_load1 ⟨⟨_, Try.underlying48, rfl⟩⟩ rfl h.c1) ?_
  refine g_read rfl rfl hS3 (fun w' h => exec_lenMap Try.underlying48 h.map rfl) ?_
  iterate 1 (refine g_take rfl rfl (fun K hK => ?_); go_simp; refine hK _ ?_; clear hK K)
  iterate 2 (refine g_take rfl rfl (fun K hK => ?_); go_simp; refine hK _ ?_; clear hK K)
  iterate 1 (refine g_take rfl rfl (fun K hK => ?_); go_simp; refine hK _ ?_; clear hK K)
  refine g_read rfl rfl hS3 (fun w' h => exec_load1 ⟨⟨_, Try.underlying3, rfl⟩⟩ rfl (h.ks.rbx 3 (by simp))) ?_
  iterate 1 (refine g_take rfl rfl (fun K hK => ?_); go_simp; refine hK _ ?_; clear hK K)
  iterate 2 (refine g_take rfl rfl (fun K hK => ?_); go_simp; refine hK _ ?_; clear hK K)
  iterate 1 (refine g_take rfl rfl (fun K hK => ?_); go_simp; refine hK _ ?_; clear hK K)
  refine g_read rfl rfl hS3 (fun w' h => exec_load1 ⟨⟨_, Try.underlying37, rfl⟩⟩ rfl (h.ks.rbx 5 (by simp))) ?_
  iterate 2 (refine g_take rfl rfl (fun K hK => ?_); go_simp; refine hK _ ?_; clear hK K)
  iterate 1 (refine g_take rfl rfl (fun K hK => ?_); go_simp; refine hK _ ?_; clear hK K)
  refine g_nil ?_
  have h3 : Tr w3 t mn mm L c M d := (show Tr (w1.alloc (.cells #[.int .i64 2, .int .i64 1] 23)).drew.drew t mn mm L c M d from ⟨h2.blk, h2.nodes, h2.most⟩).below hb3
  have hn3 : Nd w3 r mr cs [] ce := (show Nd (w1.alloc (.cells #[.int .i64 2, .int .i64 1] 23)).drew.drew r mr cs [] ce from ⟨hn2.blk, hn2.c1, hn2.sz, hn2.names⟩).below hb3
  have hz1 : w.heap.size ≤ (w1.alloc (.cells #[.int .i64 2, .int .i64 1] 23)).drew.drew.heap.size := by
    show w.heap.size ≤ (w1.alloc _).heap.size
    simp
    omega
  have hb03 : Below w.heap.size w w3 := ((hb.trans (hb2.mono (by omega))).drew.drew).trans (hb3.mono hz1)
  have hS4 := hS3.drew
  clear hS2 hS3 hb3 h2 hn2 h1 hn1 hb2 hlc hlr hlc2 hlr2 hlf HL HM HG hb
  go_upto_region 4 with fail
  refine wp_region_x (NS t mn mm w.heap.size (w.heap.size + 1) (w.heap.size + 2) r mr ce #[.int .i64 2, .int .i64 fi, .int .i64 fg, .int .i64 di, .int .i64 dg, .string nm, .string ot, .int .i64 at_, .string da] #[.int .i64 0, .int .i64 2, .int .i64 1, .int .i64 0, .string ⟨#[]⟩, .slice none 0 0] L c M d) [(0, 1), (1, 1), (2, 1), (3, 0), (4, 1), (5, 0), (6, 1), (7, 0), (8, 0), (9, 1), (10, 1), (11, 3)] (by kernel_rfl) (by kernel_rfl) (by intro d v c a w h; cases d <;> exact h) ?_
  iterate 3 (refine x_take rfl (fun K hK => ?_); go_simp; refine hK _ ?_; clear hK K)
  refine x_read rfl hS4 (fun w' h => exec_load1 ⟨⟨_, Try.underlying48, rfl⟩⟩ rfl h.c1) ?_
  iterate 1 (refine x_take rfl (fun K hK => ?_); go_simp; refine hK _ ?_; clear hK K)
  refine x_read rfl hS4 (fun w' h => exec_load1 ⟨⟨_, Try.underlying9, rfl⟩⟩ rfl (h.ks.cbx 5 (by simp))) ?_
  iterate 1 (refine x_take rfl (fun K hK => ?_); go_simp; refine hK _ ?_; clear hK K)
  refine x_read rfl hS4 (fun w' h => exec_load1 ⟨⟨_, Try.underlying9, rfl⟩⟩ rfl (h.ks.cbx 5 (by simp))) ?_
  refine x_read rfl hS4 (fun w' h => exec_loadA (aggF 2 1) rfl h.fbx) ?_
  iterate 2 (refine x_take rfl (fun K hK => ?_); go_simp; refine hK _ ?_; clear hK K)
  refine x_skip rfl (w' := setObjW w3.drew mr (.map (ents encS (upd nm (.agg #[.string nm, .int .i64 2, .int .i64 1, .int .i64 2]) [] ce)) (updClk nm [] ce))) (exec_mapUpdate keyS Try.underlying48 hS4.map rfl nm rfl) ?_
  refine x_nil ?_
  obtain ⟨n1, n2, n3, n4, n5, n6, n7, n8, n9⟩ := hne
  have hm4 := setObjW_mod (w := w3.drew) mr (.map (ents encS (upd nm (.agg #[.string nm, .int .i64 2, .int .i64 1, .int .i64 2]) [] ce)) (updClk nm [] ce))
  have h4 := (show Tr w3.drew t mn mm L c M d from ⟨h3.blk, h3.nodes, h3.most⟩).mod hm4 n6 n2 n3
  have hn4 : Nd (setObjW w3.drew mr (.map (ents encS (upd nm (.agg #[.string nm, .int .i64 2, .int .i64 1, .int .i64 2]) [] ce)) (updClk nm [] ce))) r mr cs (upd nm (.agg #[.string nm, .int .i64 2, .int .i64 1, .int .i64 2]) [] ce) (updClk nm [] ce) :=
    ⟨(setObjW_ne n9).trans hn3.blk, hn3.c1, hn3.sz, setObjW_at (lt_of_block hn3.names)⟩
  have hmd4 : Mod (fun x => x = mn ∨ x = mm ∨ x = mr) w (setObjW w3.drew mr (.map (ents encS (upd nm (.agg #[.string nm, .int .i64 2, .int .i64 1, .int .i64 2]) [] ce)) (updClk nm [] ce))) :=
    (((Mod.of_below hb03).mono (T := fun _ => False) fun x hx h => absurd h (Nat.not_le.2 hx)).drew).trans hm4 (fun x h => h.elim) fun x _ h => .inr (.inr h)
  have hf4 := lies_mod hS4.fbx hm4 (fun e => by have := lt_of_block hnm; omega)
  have hb3s := hb03.size
  generalize setObjW w3.drew mr (.map (ents encS (upd nm (.agg #[.string nm, .int .i64 2, .int .i64 1, .int .i64 2]) [] ce)) (updClk nm [] ce)) = w4 at *
  have hz4 := hmd4.size
  have hS5 : FS t mn mm (w.heap.size + 2) w4.drew := ⟨h4.ts.c0, h4.ts.c1, hf4⟩
  clear hS4 hm4 h3 hn3 hb03 hf4
  go_upto_region 5 with fail
  refine wp_region_x (FS t mn mm (w.heap.size + 2)) [(0, 1), (1, 1), (2, 1), (3, 0), (4, 0), (5, 1), (6, 1), (7, 1), (8, 0), (9, 1), (10, 0), (11, 1), (13, 1), (14, 0), (12, 2), (15, 2), (16, 1), (17, 2), (18, 2), (19, 1), (20, 3)] (by kernel_rfl) (by kernel_rfl) (by intro d v c a w h; cases d <;> exact h) ?_
  iterate 3 (refine x_take rfl (fun K hK => ?_); go_simp; refine hK _ ?_; clear hK K)
  refine x_read rfl hS5 (fun w' h => exec_load1 ⟨⟨_, Try.underlying28, rfl⟩⟩ rfl h.c0) ?_
  refine x_read rfl hS5 (fun w' h => exec_loadA (aggF 2 1) rfl h.fbx) ?_
  iterate 3 (refine x_take rfl (fun K hK => ?_); go_simp; refine hK _ ?_; clear hK K)
  refine x_read rfl hS5 (fun w' h => exec_load1 ⟨⟨_, Try.underlying29, rfl⟩⟩ rfl h.c1) ?_
  iterate 1 (refine x_take rfl (fun K hK => ?_); go_simp; refine hK _ ?_; clear hK K)
  refine x_read rfl hS5 (fun w' h => exec_load1 ⟨⟨_, Try.underlying3, rfl⟩⟩ rfl (h.fbx 0 (by simp))) ?_
  iterate 2 (refine x_take rfl (fun K hK => ?_); go_simp; refine hK _ ?_; clear hK K)
  refine x_read rfl hS5 (fun w' h => exec_load1 ⟨⟨_, Try.underlying3, rfl⟩⟩ rfl (h.fbx 1 (by simp))) ?_
  refine x_show' rfl (fun K hK => ?_)
  go_simp
  refine (fresh_any w4.drew 2).mono ?_
  rintro e w5 ⟨rfl, hnf, hb5, hs5⟩
  have hz5 : w4.drew.heap.size = w4.heap.size := rfl
  rw [hz5] at hnf hs5 hb5 ⊢
  have hb5' : Below w4.heap.size w4 w5 := (Below.refl _ w4).drew.trans hb5
  have h5 : Tr w5 t mn mm L c M d := h4.below hb5'
  have hn5 := hn4.below hb5'
  have hmd5 : Mod (fun x => x = mn ∨ x = mm ∨ x = mr) w w5 := hmd4.trans (Mod.of_below hb5') (fun x h => h) fun x hx h => by have := hmd4.size; omega
  have hS6 := hS5.below hb5
  refine hK _ _ hS6 ?_
  have hfl : w.heap.size + 2 < w5.heap.size := World.block_lt_of_cell? w5 _ (hS6.fbx 0 (by simp))
  clear hK K hS5 h4 hn4 hmd4 hb5 hb5'
  refine x_show rfl (exec_mapEntryE keyF Try.underlying28 zeroP h5.nodes rfl (2, 1) rfl) (hS6.mod (setObjW_mod _ _) n4 (by omega)) ?_
  iterate 1 (refine x_take rfl (fun K hK => ?_); go_simp; refine hK _ ?_; clear hK K)
  have hS7 := (hS6.mod (setObjW_mod mn (.map (ents encF (entL (2, 1) (.pointer none) L c)) (updClk (2, 1) L c))) n4 (by omega)).mod (setObjW_mod mn (.map (ents encF (upd (2, 1) (.pointer (some ⟨w4.heap.size + 1, 0, none⟩)) L c)) (updClk (2, 1) L c))) n4 (by omega)
  refine x_skipS rfl (w' := setObjW (setObjW w5 mn (.map (ents encF (entL (2, 1) (.pointer none) L c)) (updClk (2, 1) L c))) mn (.map (ents encF (upd (2, 1) (.pointer (some ⟨w4.heap.size + 1, 0, none⟩)) L c)) (updClk (2, 1) L c))) (exec_entryStoreE (z := .pointer none) (k := (2, 1)) (setObjW_at (lt_of_block h5.nodes)) hwL rfl rfl) hS7 ?_
  have hm7 : Mod (fun x => x = mn) w5 (setObjW (setObjW w5 mn (.map (ents encF (entL (2, 1) (.pointer none) L c)) (updClk (2, 1) L c))) mn (.map (ents encF (upd (2, 1) (.pointer (some ⟨w4.heap.size + 1, 0, none⟩)) L c)) (updClk (2, 1) L c))) := (setObjW_mod _ _).trans (setObjW_mod _ _) (fun _ h => h) fun _ _ h => h
  have hk7 : (setObjW (setObjW w5 mn (.map (ents encF (entL (2, 1) (.pointer none) L c)) (updClk (2, 1) L c))) mn (.map (ents encF (upd (2, 1) (.pointer (some ⟨w4.heap.size + 1, 0, none⟩)) L c)) (updClk (2, 1) L c))).heap[mn]? = some (.map (ents encF (upd (2, 1) (.pointer (some ⟨w4.heap.size + 1, 0, none⟩)) L c)) (updClk (2, 1) L c)) := setObjW_at (by rw [show ∀ (w : World) r o, (setObjW w r o).heap.size = w.heap.size from fun w r o => by simp [setObjW]]; exact lt_of_block h5.nodes)
  have h6m := h5.most
  have h6b := h5.blk
  generalize setObjW (setObjW w5 mn (.map (ents encF (entL (2, 1) (.pointer none) L c)) (updClk (2, 1) L c))) mn (.map (ents encF (upd (2, 1) (.pointer (some ⟨w4.heap.size + 1, 0, none⟩)) L c)) (updClk (2, 1) L c)) = w7 at *
  have hM7 := hm7.heap h6m (fun e => n1 e.symm)
  refine x_show rfl (exec_mapEntryE keyI Try.underlying29 zeroI hM7 rfl 2 rfl) (hS7.mod (setObjW_mod _ _) n5 (by omega)) ?_
  iterate 1 (refine x_take rfl (fun K hK => ?_); go_simp; refine hK _ ?_; clear hK K)
  refine x_skip rfl (w' := setObjW (setObjW w7 mm (.map (ents encI (entL 2 (.int .i64 0) M d)) (updClk 2 M d))) mm (.map (ents encI (upd 2 (.int .i64 1) M d)) (updClk 2 M d))) (exec_entryStoreE (z := .int .i64 0) (k := 2) (setObjW_at (lt_of_block hM7)) hwM rfl rfl) ?_
  refine x_nil ?_
  have hm9 : Mod (fun x => x = mm) w7 (setObjW (setObjW w7 mm (.map (ents encI (entL 2 (.int .i64 0) M d)) (updClk 2 M d))) mm (.map (ents encI (upd 2 (.int .i64 1) M d)) (updClk 2 M d))) := (setObjW_mod _ _).trans (setObjW_mod _ _) (fun _ h => h) fun _ _ h => h
  have hk9 : (setObjW (setObjW w7 mm (.map (ents encI (entL 2 (.int .i64 0) M d)) (updClk 2 M d))) mm (.map (ents encI (upd 2 (.int .i64 1) M d)) (updClk 2 M d))).heap[mm]? = some (.map (ents encI (upd 2 (.int .i64 1) M d)) (updClk 2 M d)) := setObjW_at (by rw [show ∀ (w : World) r o, (setObjW w r o).heap.size = w.heap.size from fun w r o => by simp [setObjW]]; exact lt_of_block hM7)
  generalize setObjW (setObjW w7 mm (.map (ents encI (entL 2 (.int .i64 0) M d)) (updClk 2 M d))) mm (.map (ents encI (upd 2 (.int .i64 1) M d)) (updClk 2 M d)) = w9 at *
  have hmA : Mod (fun x => x = mn ∨ x = mm) w5 w9 := hm7.trans hm9 (fun _ h => .inl h) fun _ _ h => .inr h
  have hN := hn5.mod hmA (fun h => h.elim n7 n8) (fun h => h.elim (fun e => n2 e.symm) (fun e => n3 e.symm))
  have hF := hnf.mod hmA (by omega) (by omega)
  have hB := hmA.heap h6b (fun h => h.elim n4 n5)
  have hK9 := hm9.heap hk7 n1
  have hMz := hmd5.trans hmA (fun _ h => h) fun _ _ h => h.elim .inl (fun h => .inr (.inl h))
  clear hm7 hm9 hmA hk7 hM7 hS7 hS6 h5 hn5 hnf hmd5 h6m h6b
  go_wp2
  go_ret
  exact ⟨rfl, _, _, ⟨hB, hK9, hk9⟩, hN, hF, by omega, by omega, hMz⟩
end Go.Proofs.Yteafnipciofamaa
