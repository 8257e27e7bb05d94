/- Blocks that are kept: some, Dirty, All, Of; Drop, DropFile, Retag: walked. -/
import Derived.Test.YtldimgchpgoggaaGreatMgQuo28
import Derived.Test.YtldimgchpgoggaaGreatMgQuo5
/- Blocks that are kept: functions that ask of slots, that turn them: walked (printed by genpcl.py). -/
namespace Go.Proofs.YtldimgchpgoggaaGreat
open Go.RowKit Go.Tn Go.Tn.Bt Go.Tn.Lp Go.Tn.Dk Go.Tn.Ino Go.Tn.Slo Go.Tn.Ck Go.Tn.Pc
theorem eqFile (w : World) (i g i' g' : Int) : (Op.equalIn 10000 33 (.agg #[.int .i64 i, .int .i64 g]) (.agg #[.int .i64 i', .int .i64 g'])).run Tryz.prog w = .ok (decide ((i, g) = (i', g'))) w := by
  have : decide ((i, g) = (i', g')) = (i == i' && g == g') := by
    rw [Bool.eq_iff_iff]; simp
  rw [this]
  rw [run_equalIn_agg w 9999 33 _ _ (by simp [Program.fieldsOf, Tryz.underlying33]) (by kernel_rfl)]
  simp [go_sem, Program.fieldsOf, Tryz.underlying33, Op.eqFields, part, isAgg]
  by_cases h1 : i = i'
  · by_cases h2 : g = g'
    · simp [h1, h2]
    · simp [h1, h2]
  · simp [h1]
/-- A function that asks of slots. -/
def FnQ (w : World) (g : Nat) (cb : Array Value) (q : Slt → Bool) : Prop := ∀ w', Below w.heap.size w w' → ∀ x : Slt, x.is → Calls Tryz.prog g (#[.agg (slC x)] ++ cb) w' fun e w2 => e = .returned (.bool (q x)) ∧ Below w'.heap.size w' w2
theorem FnQ.below {w w' : World} {g : Nat} {cb : Array Value} {q : Slt → Bool} (h : FnQ w g cb q) (hb : Below w.heap.size w w') : FnQ w' g cb q := fun w2 h2 => h w2 (hb.trans (h2.mono hb.size))
theorem slC_file {w : World} {b : Nat} {x : Slt} (h : w.heap[b]? = some (.cells (slC x) 42 (0, 0))) : Lies w b 1 #[.int .i64 x.blk.1, .int .i64 x.blk.2.1] := fun j hj => by
  match j, hj with
  | 0, _ => exact cell_of h rfl
  | 1, _ => exact cell_of h rfl
set_option maxRecDepth 20000 in
set_option maxHeartbeats 1000000 in
theorem dropFile_q {w : World} {bx : Nat} {f : Int × Int} (hbx : w.heap[bx]? = some (.cells #[.int .i64 f.1, .int .i64 f.2] 33 (0, 0))) : FnQ w 70 #[.pointer (some ⟨bx, 0, none⟩)] (qFile f) := by
  intro w' hb x hx
  have hF := (hb.block bx (lt_of_block hbx)).trans hbx
  obtain ⟨w1, hw1⟩ : ∃ w1, w'.alloc (.cells (slC x) 42) = w1 := ⟨_, rfl⟩
  have hb1 : Below w'.heap.size w' w1 := by rw [← hw1]; exact (Below.refl _ _).alloc (Nat.le_refl _) _
  have hX : w1.heap[w'.heap.size]? = some (.cells (slC x) 42 (0, 0)) := by rw [← hw1]; exact heap_alloc_at
  have hL := slC_file hX
  have hLf : Lies w1 bx 0 #[.int .i64 f.1, .int .i64 f.2] := lies_of ((hb1.block bx (lt_of_block hF)).trans hF)
  have hag := aggFi x.blk.1 x.blk.2.1
  have hagf := aggFi f.1 f.2
  have hgt : Tryz.prog.eqGuardType Tryz.prog.depth 33 = false := by kernel_rfl
  have heq := fun w => eqFile w x.blk.1 x.blk.2.1 f.1 f.2
  have hq : qFile f x = decide ((x.blk.1, x.blk.2.1) = (f.1, f.2)) := rfl
  rw [← hq] at heq
  generalize qFile f x = q at *
  clear hq hb hbx hF hX
  show Calls Tryz.prog 70 #[.agg (slC x), .pointer (some ⟨bx, 0, none⟩)] w' _
  go_enter Tryz.func70, Tryz.ntmps70
  go_upto_region 1 with fail
  simp only [hw1] at *
  clear hw1
  go_wp2_with (first
    | ((with_reducible refine wpList_loadA hag hL ?_ ?_); rfl; go_frame)
    | ((with_reducible refine wpList_loadA hagf hLf ?_ ?_); rfl; go_frame)
    | ((with_reducible refine wpList_exec rfl (exec_eqlS hgt heq ?_ ?_ _) ?_); rfl; rfl; go_frame)
    | fail)
  go_ret
  exact ⟨rfl, hb1⟩
set_option maxRecDepth 20000 in
set_option maxHeartbeats 1000000 in
theorem of_q {w : World} {bx : Nat} {f : Int × Int} (hbx : w.heap[bx]? = some (.cells #[.int .i64 f.1, .int .i64 f.2] 33 (0, 0))) : FnQ w 60 #[.pointer (some ⟨bx, 0, none⟩)] (qFile f) := by
  intro w' hb x hx
  have hF := (hb.block bx (lt_of_block hbx)).trans hbx
  obtain ⟨w1, hw1⟩ : ∃ w1, w'.alloc (.cells (slC x) 42) = w1 := ⟨_, rfl⟩
  have hb1 : Below w'.heap.size w' w1 := by rw [← hw1]; exact (Below.refl _ _).alloc (Nat.le_refl _) _
  have hX : w1.heap[w'.heap.size]? = some (.cells (slC x) 42 (0, 0)) := by rw [← hw1]; exact heap_alloc_at
  have hL := slC_file hX
  have hLf : Lies w1 bx 0 #[.int .i64 f.1, .int .i64 f.2] := lies_of ((hb1.block bx (lt_of_block hF)).trans hF)
  have hag := aggFi x.blk.1 x.blk.2.1
  have hagf := aggFi f.1 f.2
  have hgt : Tryz.prog.eqGuardType Tryz.prog.depth 33 = false := by kernel_rfl
  have heq := fun w => eqFile w x.blk.1 x.blk.2.1 f.1 f.2
  have hq : qFile f x = decide ((x.blk.1, x.blk.2.1) = (f.1, f.2)) := rfl
  rw [← hq] at heq
  generalize qFile f x = q at *
  clear hq hb hbx hF hX
  show Calls Tryz.prog 60 #[.agg (slC x), .pointer (some ⟨bx, 0, none⟩)] w' _
  go_enter Tryz.func60, Tryz.ntmps60
  go_upto_region 1 with fail
  simp only [hw1] at *
  clear hw1
  go_wp2_with (first
    | ((with_reducible refine wpList_loadA hag hL ?_ ?_); rfl; go_frame)
    | ((with_reducible refine wpList_loadA hagf hLf ?_ ?_); rfl; go_frame)
    | ((with_reducible refine wpList_exec rfl (exec_eqlS hgt heq ?_ ?_ _) ?_); rfl; rfl; go_frame)
    | fail)
  go_ret
  exact ⟨rfl, hb1⟩
set_option maxRecDepth 20000 in
set_option maxHeartbeats 1000000 in
theorem retag_q {w : World} {bx : Nat} {f : Int × Int} (hbx : w.heap[bx]? = some (.cells #[.int .i64 f.1, .int .i64 f.2] 33 (0, 0))) : FnQ w 72 #[.pointer (some ⟨bx, 0, none⟩)] (qClean f) := by
  intro w' hb x hx
  have hF := (hb.block bx (lt_of_block hbx)).trans hbx
  obtain ⟨w1, hw1⟩ : ∃ w1, w'.alloc (.cells (slC x) 42) = w1 := ⟨_, rfl⟩
  have hb1 : Below w'.heap.size w' w1 := by rw [← hw1]; exact (Below.refl _ _).alloc (Nat.le_refl _) _
  have hX : w1.heap[w'.heap.size]? = some (.cells (slC x) 42 (0, 0)) := by rw [← hw1]; exact heap_alloc_at
  have hL := slC_file hX
  have c5 : w1.cell? ⟨w'.heap.size, 5, none⟩ = some (.bool x.dirty) := cell_of hX rfl
  have hLf : Lies w1 bx 0 #[.int .i64 f.1, .int .i64 f.2] := lies_of ((hb1.block bx (lt_of_block hF)).trans hF)
  have hag := aggFi x.blk.1 x.blk.2.1
  have hagf := aggFi f.1 f.2
  have hgt : Tryz.prog.eqGuardType Tryz.prog.depth 33 = false := by kernel_rfl
  have heq := fun w => eqFile w x.blk.1 x.blk.2.1 f.1 f.2
  have hq : qFile f x = decide ((x.blk.1, x.blk.2.1) = (f.1, f.2)) := rfl
  rw [← hq] at heq
  have hqc : qClean f x = (qFile f x && !x.dirty) := rfl
  rw [hqc]
  generalize qFile f x = q at *
  generalize x.dirty = dy at *
  clear hq hb hbx hF hX hqc
  show Calls Tryz.prog 72 #[.agg (slC x), .pointer (some ⟨bx, 0, none⟩)] w' _
  cases q
  all_goals
    go_enter Tryz.func72, Tryz.ntmps72
    go_upto_region 1 with fail
    simp only [hw1] at *
    go_wp2_with (first
      | ((with_reducible refine wpList_loadA hag hL ?_ ?_); rfl; go_frame)
      | ((with_reducible refine wpList_loadA hagf hLf ?_ ?_); rfl; go_frame)
      | ((with_reducible refine wpList_exec rfl (exec_eqlS hgt heq ?_ ?_ _) ?_); rfl; rfl; go_frame)
      | fail)
    go_ret
    exact ⟨by simp, hb1⟩
set_option maxRecDepth 20000 in
set_option maxHeartbeats 1000000 in
theorem dirty_q (w : World) : FnQ w 48 #[] qDirty := by
  intro w' hb x hx
  obtain ⟨w1, hw1⟩ : ∃ w1, w'.alloc (.cells (slC x) 42) = w1 := ⟨_, rfl⟩
  have hb1 : Below w'.heap.size w' w1 := by rw [← hw1]; exact (Below.refl _ _).alloc (Nat.le_refl _) _
  have hX : w1.heap[w'.heap.size]? = some (.cells (slC x) 42 (0, 0)) := by rw [← hw1]; exact heap_alloc_at
  have c5 : w1.cell? ⟨w'.heap.size, 5, none⟩ = some (.bool x.dirty) := cell_of hX rfl
  clear hb hX
  show Calls Tryz.prog 48 #[.agg (slC x)] w' _
  go_enter Tryz.func48, Tryz.ntmps48
  go_upto_region 1 with fail
  simp only [hw1] at *
  clear hw1
  go_wp2
  go_ret
  exact ⟨rfl, hb1⟩
set_option maxRecDepth 20000 in
set_option maxHeartbeats 1000000 in
theorem all_q (w : World) : FnQ w 49 #[] qAll := by
  intro w' hb x hx
  obtain ⟨w1, hw1⟩ : ∃ w1, w'.alloc (.cells (slC x) 42) = w1 := ⟨_, rfl⟩
  have hb1 : Below w'.heap.size w' w1 := by rw [← hw1]; exact (Below.refl _ _).alloc (Nat.le_refl _) _
  clear hb
  show Calls Tryz.prog 49 #[.agg (slC x)] w' _
  go_enter Tryz.func49, Tryz.ntmps49
  go_upto_region 1 with fail
  simp only [hw1] at *
  clear hw1
  go_wp2
  go_ret
  exact ⟨rfl, hb1⟩
set_option maxRecDepth 20000 in
set_option maxHeartbeats 1000000 in
theorem drop_t (w : World) (S : Nat → Prop) : FnT w S 68 #[] tNo := by
  intro w' hm x hx
  obtain ⟨w1, hw1⟩ : ∃ w1, (w'.alloc (.cells (slC x) 42)).alloc (.cells #[.bool false, .int .i64 0, .int .i64 0, .int .i64 0, .int .u64 0, .bool false, .string { data := #[] }] 42) = w1 := ⟨_, rfl⟩
  have hb0 : Below w'.heap.size w' (w'.alloc (.cells (slC x) 42)) := (Below.refl _ _).alloc (Nat.le_refl _) _
  have hb1 : Below w'.heap.size w' w1 := by rw [← hw1]; exact hb0.alloc (by simp) _
  have hZ : w1.heap[w'.heap.size + 1]? = some (.cells (slC Slt.no) 42 (0, 0)) := by
    rw [← hw1]
    have := heap_alloc_at (w := w'.alloc (.cells (slC x) 42)) (o := .cells #[.bool false, .int .i64 0, .int .i64 0, .int .i64 0, .int .u64 0, .bool false, .string { data := #[] }] 42)
    rw [World.size_alloc] at this
    exact this
  have hagn := aggSl Slt.no
  have honn := oneSl Slt.no
  have hbn := built_no
  have HB1 := Lib.hid hb1
  clear hb0 hb1
  show Calls Tryz.prog 68 #[.agg (slC x)] w' _
  go_enter Tryz.func68, Tryz.ntmps68
  go_upto_region 1 with fail
  simp only [hw1] at *
  clear hw1
  go_wp2_with (first
    | ((with_reducible refine wpList_exec rfl (exec_buildA (vals := []) ?_ hbn) ?_); rfl; go_frame)
    | ((with_reducible refine wpList_storeB hagn ?_ ?_ hZ rfl honn ?_); rfl; rfl; (intro w9 hh9 hm9; have HH9 := Lib.hid hh9; have HM9 := Lib.hid hm9; clear hh9 hm9); go_frame)
    | fail)
  refine bodyPost_ret (results_cellA rfl _ rfl hagn (lies_of HH9.out)) rfl ?_
  exact ⟨rfl, HB1.out.trans (HM9.out.below HB1.out.size fun y hy e => by have e : y = w'.heap.size + 1 := e; omega)⟩
set_option maxRecDepth 20000 in
set_option maxHeartbeats 1000000 in
theorem dropFile_t (w : World) (S : Nat → Prop) : FnT w S 71 #[] tNo := by
  intro w' hm x hx
  obtain ⟨w1, hw1⟩ : ∃ w1, (w'.alloc (.cells (slC x) 42)).alloc (.cells #[.bool false, .int .i64 0, .int .i64 0, .int .i64 0, .int .u64 0, .bool false, .string { data := #[] }] 42) = w1 := ⟨_, rfl⟩
  have hb0 : Below w'.heap.size w' (w'.alloc (.cells (slC x) 42)) := (Below.refl _ _).alloc (Nat.le_refl _) _
  have hb1 : Below w'.heap.size w' w1 := by rw [← hw1]; exact hb0.alloc (by simp) _
  have hZ : w1.heap[w'.heap.size + 1]? = some (.cells (slC Slt.no) 42 (0, 0)) := by
    rw [← hw1]
    have := heap_alloc_at (w := w'.alloc (.cells (slC x) 42)) (o := .cells #[.bool false, .int .i64 0, .int .i64 0, .int .i64 0, .int .u64 0, .bool false, .string { data := #[] }] 42)
    rw [World.size_alloc] at this
    exact this
  have hagn := aggSl Slt.no
  have honn := oneSl Slt.no
  have hbn := built_no
  have HB1 := Lib.hid hb1
  clear hb0 hb1
  show Calls Tryz.prog 71 #[.agg (slC x)] w' _
  go_enter Tryz.func71, Tryz.ntmps71
  go_upto_region 1 with fail
  simp only [hw1] at *
  clear hw1
  go_wp2_with (first
    | ((with_reducible refine wpList_exec rfl (exec_buildA (vals := []) ?_ hbn) ?_); rfl; go_frame)
    | ((with_reducible refine wpList_storeB hagn ?_ ?_ hZ rfl honn ?_); rfl; rfl; (intro w9 hh9 hm9; have HH9 := Lib.hid hh9; have HM9 := Lib.hid hm9; clear hh9 hm9); go_frame)
    | fail)
  refine bodyPost_ret (results_cellA rfl _ rfl hagn (lies_of HH9.out)) rfl ?_
  exact ⟨rfl, HB1.out.trans (HM9.out.below HB1.out.size fun y hy e => by have e : y = w'.heap.size + 1 := e; omega)⟩
theorem slC_ver (x : Slt) (v : Nat) : (slC x).setIfInBounds 4 (.int .u64 (v : Nat)) = slC (tVer v x) := rfl
set_option maxRecDepth 20000 in
set_option maxHeartbeats 1000000 in
theorem retag_t {w : World} {S : Nat → Prop} {bx v : Nat} (hbx : w.cell? ⟨bx, 0, none⟩ = some (.int .u64 (v : Nat))) (hS : ¬ S bx) : FnT w S 73 #[.pointer (some ⟨bx, 0, none⟩)] (tVer v) := by
  intro w' hm x hx
  have hv := cell_mod hbx hm hS
  obtain ⟨w1, hw1⟩ : ∃ w1, (w'.alloc (.cells (slC x) 42)).alloc (.cells #[.bool false, .int .i64 0, .int .i64 0, .int .i64 0, .int .u64 0, .bool false, .string { data := #[] }] 42) = w1 := ⟨_, rfl⟩
  have hb0 : Below w'.heap.size w' (w'.alloc (.cells (slC x) 42)) := (Below.refl _ _).alloc (Nat.le_refl _) _
  have hb1 : Below w'.heap.size w' w1 := by rw [← hw1]; exact hb0.alloc (by simp) _
  have hX : w1.heap[w'.heap.size]? = some (.cells (slC x) 42 (0, 0)) := by rw [← hw1]; exact heap_alloc_of heap_alloc_at
  have hZ : w1.heap[w'.heap.size + 1]? = some (.cells (slC Slt.no) 42 (0, 0)) := by
    rw [← hw1]
    have := heap_alloc_at (w := w'.alloc (.cells (slC x) 42)) (o := .cells #[.bool false, .int .i64 0, .int .i64 0, .int .i64 0, .int .u64 0, .bool false, .string { data := #[] }] 42)
    rw [World.size_alloc] at this
    exact this
  have c0 : w1.cell? ⟨bx, 0, none⟩ = some (.int .u64 (v : Nat)) := (hb1.cell (p := ⟨bx, 0, none⟩) (World.block_lt_of_cell? w' _ hv)).trans hv
  have c4 : w1.cell? ⟨w'.heap.size, 4, none⟩ = some (.int .u64 (x.ver : Nat)) := cell_of hX rfl
  have f4 : w1.frozen? ⟨w'.heap.size, 4, none⟩ = false := free_of hX
  have HB1 := Lib.hid hb1
  have HX := Lib.hid hX
  have HZ := Lib.hid hZ
  clear hb0 hb1 hm hv hbx hX hZ
  show Calls Tryz.prog 73 #[.agg (slC x), .pointer (some ⟨bx, 0, none⟩)] w' _
  go_enter Tryz.func73, Tryz.ntmps73
  go_upto_region 1 with fail
  simp only [hw1] at *
  clear hw1
  go_upto_region 2 with fail
  have hm7 := (Mod.refl (fun y => y = w'.heap.size) w1).setCell ⟨w'.heap.size, 4, none⟩ (.int .u64 (v : Nat)) (fun _ => rfl)
  have hk7 : (w1.setCell ⟨w'.heap.size, 4, none⟩ (.int .u64 (v : Nat))).heap[w'.heap.size]? = some (.cells (slC (tVer v x)) 42 (0, 0)) := by
    rw [heap_setCell_at HX.out, slC_ver]
  have hz7 := hm7.heap HZ.out (fun e => by omega)
  have HM7 := Lib.hid hm7
  clear hm7 c0 c4 f4
  generalize w1.setCell ⟨w'.heap.size, 4, none⟩ (.int .u64 (v : Nat)) = w7 at *
  have hL7 := lies_of hk7
  have hagn := aggSl (tVer v x)
  have honn := oneSl (tVer v x)
  go_wp2_with (first
    | ((with_reducible refine wpList_loadA hagn hL7 ?_ ?_); rfl; go_frame)
    | ((with_reducible refine wpList_storeB hagn ?_ ?_ hz7 rfl honn ?_); rfl; rfl; (intro w9 hh9 hm9; have HH9 := Lib.hid hh9; have HM9 := Lib.hid hm9; clear hh9 hm9); go_frame)
    | fail)
  refine bodyPost_ret (results_cellA rfl _ rfl hagn (lies_of HH9.out)) rfl ?_
  exact ⟨rfl, HB1.out.trans ((HM7.out.below HB1.out.size fun y hy e => by have e : y = w'.heap.size := e; omega).trans (HM9.out.below (Nat.le_trans HB1.out.size HM7.out.size) fun y hy e => by have e : y = w'.heap.size + 1 := e; omega))⟩
end Go.Proofs.YtldimgchpgoggaaGreat

/- Blocks that are kept: places, some: walked. -/
namespace Go.Proofs.YtldimgchpgoggaaGreat
open Go.RowKit Go.Tn Go.Tn.Bt Go.Tn.Lp Go.Tn.Dk Go.Tn.Ino Go.Tn.Slo Go.Tn.Ck Go.Tn.Pc
section
variable {w w' : World} {F FD F' FD' : Nat → Prop} {A : CA} {l l' : Lg} {d d' : Dsk} {P P' : PC}
theorem sel_snoc (P : PC) (q : Slt → Bool) (k : Nat) : (List.range (k + 1)).filter (P.isQ q) = (List.range k).filter (P.isQ q) ++ if P.isQ q k = true then [k] else [] := by
  rw [List.range_succ, List.filter_append]
  congr 1
  cases h : P.isQ q k <;> simp [List.filter, h]
set_option maxRecDepth 20000 in
set_option maxHeartbeats 8000000 in
theorem pplaces_any (h : CAt w F FD A l d P) (g : Nat) (eg : ∀ args w, (callFunc g args).run Tryz.prog w = .ok (.enter g args) w) (cb : Array Value) (q : Slt → Bool) (hq : FnQ w g cb q) :
    Calls Tryz.prog 69 #[.pointer (some ⟨A.c, 0, none⟩), .func (.func g) #[] cb] w fun e w' => ∃ v is, e = .returned v ∧ ByBlk P q is ∧ LRd enI 1 w.heap.size w' v (is.map fun (i : Nat) => (i : Int)) ∧ Below w.heap.size w w' := by
  obtain ⟨w1, hw1⟩ : ∃ w1, w.alloc (.cells #[.pointer (some ⟨A.c, 0, none⟩)] 29) = w1 := ⟨_, rfl⟩
  have hb1 : Below w.heap.size w w1 := by rw [← hw1]; exact (Below.refl _ _).alloc (Nat.le_refl _) _
  have hX : w1.heap[w.heap.size]? = some (.cells #[.pointer (some ⟨A.c, 0, none⟩)] 29 (0, 0)) := by rw [← hw1]; exact heap_alloc_at
  have cx : w1.cell? ⟨w.heap.size, 0, none⟩ = some (.pointer (some ⟨A.c, 0, none⟩)) := cell_of hX rfl
  have hs1 : w1.heap.size = w.heap.size + 1 := by rw [← hw1]; simp
  have hC1 := h.below hb1
  have hok := pok_any hC1
  have hltw := h.lt
  obtain ⟨N, hN⟩ : ∃ N, P.L.length = N := ⟨_, rfl⟩
  have hN64 : N ≤ 64 := by
    have h2 := h.ring.hi
    have h3 := h.ok.len
    omega
  have c1 : w1.cell? ⟨A.c, 1, none⟩ = some (.slice (some ⟨A.sb, 0, none⟩) N N) := by rw [← hN]; exact hC1.c1
  have HQ := Lib.hid (hq.below hb1)
  have HB1 := Lib.hid hb1
  have HC1 := Lib.hid hC1
  have HLT := Lib.hid hltw
  have HN := Lib.hid hN
  have HS1 := Lib.hid hs1
  have HX := Lib.hid hX
  clear h hq hb1 hX hs1 hC1 hltw hN
  go_enter Tryz.func69, Tryz.ntmps69
  go_upto_region 1 with fail
  simp only [hw1] at *
  clear hw1
  go_wp2_with (first
    | (go_at_call 45; refine hok.mono ?_; rintro e wt ⟨rfl, hw⟩; obtain rfl := hw.symm; clear hw)
    | fail)
  go_loopw [5, 16] (fun ov iv wi => ∃ k : Nat, k ≤ N ∧ iv = .int .i64 k ∧ Below w1.heap.size w1 wi ∧ LOut enI 1 3 w1.heap.size wi ov (((List.range k).filter (P.isQ q)).map fun (i : Nat) => (i : Int))) (fun _ iv _ => N - (intOf iv).toNat)
  case atStart => exact ⟨0, Nat.zero_le _, rfl, Below.refl _ _, LOut.nil (Nat.le_refl _)⟩
  case round =>
    obtain ⟨k, hk, rfl, hb, hO⟩ := hrel
    have HB := Lib.hid hb
    have HO := Lib.hid hO
    clear hb hO
    by_cases hkl : k < N
    · have hkl' : (k : Int) < (N : Int) := by omega
      have hCr := HC1.out.below HB.out
      obtain ⟨y, hy⟩ : ∃ y, P.at_ k = y := ⟨_, rfl⟩
      have hLy : Lies wr A.sb (k * 7) (slC y) := slots_lies hCr.slots (by rw [← hy]; exact at_get (by rw [HN.out]; exact hkl))
      have hyi : y.is := by rw [← hy]; exact hCr.ok.is _ (List.mem_of_getElem? (at_get (by rw [HN.out]; exact hkl)))
      have hagy := aggSl y
      have hony := oneSl y
      obtain ⟨w2, hw2⟩ : ∃ w2, wr.alloc (.cells (slC y) 42) = w2 := ⟨_, rfl⟩
      have hb2 : Below wr.heap.size wr w2 := by rw [← hw2]; exact (Below.refl _ _).alloc (Nat.le_refl _) _
      have hL2 : Lies w2 wr.heap.size 0 (slC y) := by rw [← hw2]; exact lies_of heap_alloc_at
      have hlt2 : wr.heap.size < w2.heap.size := by rw [← hw2]; simp
      have hfr := sfree_any w2 y
      have hsn := sel_snoc P q k
      have hisq : P.isQ q k = (y.used && q y) := by unfold PC.isQ; rw [hy]
      have HB2 := Lib.hid hb2
      have HYI := Lib.hid hyi
      clear hCr hy hb2 hyi
      go_upto_region 7 with (first
        | ((with_reducible refine wpList_loadA hagy hLy ?_ ?_); rfl; go_frame)
        | ((with_reducible refine wpList_storeA_new hagy ?_ hony ?_ ?_ ?_); rfl; rfl; rfl; go_frame)
        | fail)
      simp only [hw2] at *
      clear hw2 hLy
      by_cases hno : y = Slt.no
      · rw [decide_eq_true hno] at hfr
        have hu : P.isQ q k = false := by rw [hisq, hno]; rfl
        rw [hu, if_neg (by decide), List.append_nil] at hsn
        have HSN := Lib.hid hsn
        clear hsn hisq hu hno
        go_wp2_with (first
          | ((with_reducible refine wpList_loadA hagy hL2 ?_ ?_); rfl; go_frame)
          | (go_at_call 28; refine hfr.mono ?_; rintro e w3 ⟨rfl, hb3⟩; have HB3 := Lib.hid hb3; clear hb3)
          | fail)
        have hbr3 := HB2.out.trans (HB3.out.mono HB2.out.size)
        have hO3 := HO.out.below hbr3
        rw [← HSN.out] at hO3
        have HO3 := Lib.hid hO3
        have HBR := Lib.hid (HB.out.trans (hbr3.mono HB.out.size))
        clear hO3 hbr3 hfr hL2 HSN
        go_roundw
        case rel => exact ⟨k + 1, by omega, by go_num, HBR.out, HO3.out⟩
        case measure => simp [intOf]; omega
      · rw [decide_eq_false hno] at hfr
        have hu : y.used = true := (is_used HYI.out).2 hno
        rw [hu, Bool.true_and] at hisq
        rw [hisq] at hsn
        have HSN := Lib.hid hsn
        clear hsn hisq hu hno
        go_wp2_with (first
          | ((with_reducible refine wpList_loadA hagy hL2 ?_ ?_); rfl; go_frame)
          | fail)
        refine hfr.mono ?_
        rintro e w3 ⟨rfl, hb3⟩
        have hL3 := hL2.below' hb3 hlt2
        have hbr3 := HB2.out.trans (hb3.mono HB2.out.size)
        have hcl := HQ.out w3 (HB.out.trans (hbr3.mono HB.out.size)) y HYI.out
        have HB3 := Lib.hid hbr3
        clear hfr hL2 hb3 hbr3
        go_wp2_with (first
          | ((with_reducible refine wpList_execW (exec_loadA hagy ?_ hL3) ?_ ?_); rfl; (first | rfl | (go_simp; done)); go_frame)
          | fail)
        refine hcl.mono ?_
        rintro e w4 ⟨rfl, hb4⟩
        have hbr4 := HB3.out.trans (hb4.mono HB3.out.size)
        have hO4 := HO.out.below hbr4
        have hlk : (((List.range k).filter (P.isQ q)).map fun (i : Nat) => (i : Int)).length ≤ 1000 := by
          rw [List.length_map]
          have := List.length_filter_le (P.isQ q) (List.range k)
          rw [List.length_range] at this
          omega
        have HBR := Lib.hid (HB.out.trans (hbr4.mono HB.out.size))
        clear hcl hL3 hb4 hbr4
        cases hqy : q y with
        | true =>
          obtain ⟨a5, n5, c5, rfl⟩ := hO4.shape
          have hsn := HSN.out
          rw [if_pos hqy] at hsn
          have HSN2 := Lib.hid hsn
          clear hsn
          go_wp2_with (first
            | ((with_reducible refine wpList_append1 elI hO4 (k : Int) hlk ?_ ?_ ?_ ?_); rfl; rfl; rfl; (intro v2 w5 hO5 hb5; have HO5 := Lib.hid hO5; have HB5 := Lib.hid hb5; clear hO5 hb5); go_frame)
            | fail)
          have hO6 := HO5.out
          rw [show (((List.range k).filter (P.isQ q)).map fun (i : Nat) => (i : Int)) ++ [(k : Int)] = (((List.range (k + 1)).filter (P.isQ q)).map fun (i : Nat) => (i : Int)) by rw [HSN2.out, List.map_append]; rfl] at hO6
          have HO6 := Lib.hid hO6
          have HBF := Lib.hid (HBR.out.trans HB5.out)
          clear hO6 hO4
          go_roundw
          case rel => exact ⟨k + 1, by omega, by go_num, HBF.out, HO6.out⟩
          case measure => simp [intOf]; omega
        | false =>
          have hsn := HSN.out
          rw [if_neg (by rw [hqy]; decide), List.append_nil] at hsn
          rw [← hsn] at hO4
          have HO4 := Lib.hid hO4
          clear hsn hO4
          go_wp2
          go_roundw
          case rel => exact ⟨k + 1, by omega, by go_num, HBR.out, HO4.out⟩
          case measure => simp [intOf]; omega
    · obtain rfl : k = N := by omega
      have hO := HO.out
      have hsel : (List.range k).filter (P.isQ q) = P.sel q := by unfold PC.sel; rw [HN.out]
      rw [hsel] at hO
      have hCr := HC1.out.below HB.out
      have hxr := (HB.out.block _ (lt_of_block HX.out)).trans HX.out
      have hso := psort_any hCr w1.heap.size w.heap.size (cell_of hxr rfl) (by have := HS1.out; omega) (fun b hb => by have := HLT.out b (.inl hb); have := HS1.out; omega) _ (P.sel q) hO (fun i hi => ⟨(mem_sel.1 hi).1, (mem_sel.1 hi).2.1⟩) (sel_nodup _ _) (by
        unfold PC.sel
        have := List.length_filter_le (P.isQ q) (List.range P.L.length)
        rw [List.length_range] at this
        rw [HN.out] at this ⊢
        omega)
      clear hO hCr hxr hk hkl
      go_wp2_with fail
      refine hso.mono ?_
      rintro e w5 ⟨rfl, js, hp, hpw, hR, hb5⟩
      have hby : ByBlk P q js := ⟨fun i => by rw [hp.mem_iff]; exact mem_sel, hpw⟩
      have hbf : Below w.heap.size w w5 := HB1.out.trans ((HB.out.mono HB1.out.size).trans (hb5.mono HB1.out.size))
      have HBY := Lib.hid hby
      have HR := Lib.hid (hR.mono (B' := w.heap.size) (by have := HS1.out; omega))
      have HBF := Lib.hid hbf
      clear hso hp hpw hR hb5 hby hbf
      go_wp2
      go_ret
      exact ⟨_, js, rfl, HBY.out, HR.out, HBF.out⟩
end
end Go.Proofs.YtldimgchpgoggaaGreat

/- Blocks that are kept: some, Dirty, All, Of; Drop, DropFile, Retag: walked. -/
namespace Go.Tn.Pc
open Go.Tn Go.Tn.Slo Go.Tn.Ck Go.Tn.Dk
/-- A block is kept no longer. -/
def PC.dropD (c : PC) (l : Lg) (d : Dsk) (b : Blk) : PC × (Lg × Dsk × Nat) := match c.find b with
  | none => (c, (l, d, 11))
  | some i => c.turnD l d [i] tNo
end Go.Tn.Pc
namespace Go.Proofs.YtldimgchpgoggaaGreat
open Go.RowKit Go.Tn Go.Tn.Bt Go.Tn.Lp Go.Tn.Dk Go.Tn.Ino Go.Tn.Slo Go.Tn.Ck Go.Tn.Pc
section
variable {w w' : World} {F FD F' FD' : Nat → Prop} {A : CA} {l l' : Lg} {d d' : Dsk} {P P' : PC}
/-- What some answers. -/
def SomeR (w : World) (P : PC) (q : Slt → Bool) (e : Ending) (w' : World) : Prop := ∃ v is, e = .returned v ∧ ByBlk P q is ∧ is.length ≤ 64 ∧ LOut enSl 7 42 w.heap.size w' v (is.map P.at_) ∧ Below w.heap.size w w'
set_option maxRecDepth 20000 in
set_option maxHeartbeats 8000000 in
theorem psome_any (h : CAt w F FD A l d P) (g : Nat) (eg : ∀ args w, (callFunc g args).run Tryz.prog w = .ok (.enter g args) w) (cb : Array Value) (q : Slt → Bool) (hq : FnQ w g cb q) :
    Calls Tryz.prog 47 #[.pointer (some ⟨A.c, 0, none⟩), .func (.func g) #[] cb] w fun e w' => SomeR w P q e w' := by
  have hpl := pplaces_any h g eg cb q hq
  obtain ⟨N, hN⟩ : ∃ N, P.L.length = N := ⟨_, rfl⟩
  have hN64 : N ≤ 64 := by
    have h2 := h.ring.hi
    have h3 := h.ok.len
    omega
  have HC := Lib.hid h
  have HN := Lib.hid hN
  clear h hq hN
  go_enter Tryz.func47, Tryz.ntmps47
  go_wp2_with fail
  refine hpl.mono ?_
  rintro e w1 ⟨v, is, rfl, hby, hR, hb1⟩
  have hil : is.length ≤ 64 := by
    have h1 : is.length ≤ (List.range P.L.length).length := nodup_len hby.nodup List.nodup_range fun i hi => List.mem_range.2 ((hby.mem i).1 hi).1
    rw [List.length_range, HN.out] at h1
    omega
  obtain ⟨ao, cap, hve, hl1, hl2, hvc⟩ := hR.sl
  rw [List.length_map] at hve hl1 hvc
  subst hve
  have hlt : ∀ r, (Value.slice ao is.length cap).ownBlock = some r → r < w1.heap.size := hR.lt
  have HVC := Lib.hid hvc
  have HBY := Lib.hid hby
  have HC1 := Lib.hid (HC.out.below hb1)
  have HB1 := Lib.hid hb1
  clear hpl hby hR hb1 hl1 hl2 hvc hlt
  go_wp2
  go_loopw [5, 12] (fun ov iv wi => ∃ k : Nat, k ≤ is.length ∧ iv = .int .i64 k ∧ Below w1.heap.size w1 wi ∧ LOut enSl 7 42 w1.heap.size wi ov ((is.take k).map P.at_)) (fun _ iv _ => is.length - (intOf iv).toNat)
  case atStart => exact ⟨0, Nat.zero_le _, rfl, Below.refl _ _, LOut.nil (Nat.le_refl _)⟩
  case round =>
    obtain ⟨k, hk, rfl, hb, hO⟩ := hrel
    have HB := Lib.hid hb
    have HO := Lib.hid hO
    clear hb hO
    by_cases hkl : k < is.length
    · have hkl' : (k : Int) < (is.length : Int) := by omega
      obtain ⟨i, hi⟩ : ∃ i, is[k]? = some i := ⟨_, List.getElem?_eq_getElem hkl⟩
      obtain ⟨hiN, -, -⟩ := (HBY.out.mem i).1 (List.mem_of_getElem? hi)
      obtain ⟨b4, o4, rfl, hb4, hco⟩ := HVC.out (by omega)
      have q0 : wr.cell? ⟨b4, o4 + k, none⟩ = some (.int .i64 (i : Nat)) := by
        have h1 := hco k (i : Int) (by rw [List.getElem?_map, hi]; rfl) 0 (by simp [enI])
        have h1 : w1.cell? ⟨b4, o4 + k, none⟩ = some (.int .i64 (i : Nat)) := by simpa [enI] using h1
        exact (HB.out.cell (p := ⟨b4, o4 + k, none⟩) hb4).trans h1
      have htk : (is.take (k + 1)).map P.at_ = (is.take k).map P.at_ ++ [P.at_ i] := by
        rw [List.take_add_one, hi]
        simp
      have hCr := HC1.out.below HB.out
      have c1 : wr.cell? ⟨A.c, 1, none⟩ = some (.slice (some ⟨A.sb, 0, none⟩) N N) := by rw [← HN.out]; exact hCr.c1
      obtain ⟨y, hy⟩ : ∃ y, P.at_ i = y := ⟨_, rfl⟩
      have hLy : Lies wr A.sb (i * 7) (slC y) := slots_lies hCr.slots (by rw [← hy]; exact at_get hiN)
      have hiN' : (i : Int) < (N : Int) := by rw [← HN.out]; omega
      have hagy := aggSl y
      rw [hy] at htk
      have HTK := Lib.hid htk
      obtain ⟨a5, n5, c5, rfl⟩ := HO.out.shape
      have hol : ((is.take k).map P.at_).length ≤ 1000000000 := by
        rw [List.length_map, List.length_take]
        omega
      clear htk hi hco hCr hy hiN
      go_wp2_with (first
        | ((with_reducible refine wpList_loadA hagy hLy ?_ ?_); rfl; go_frame)
        | ((with_reducible refine wpList_exec rfl (exec_buildSliceA (k := 7) (cells := slC y) Tryz.underlying45 (by kernel_rfl) (by omega) (by omega) rfl ?_) ?_); rfl; go_frame)
        | ((with_reducible refine wpList_append1Y elSl HO.out y hol ?_ ?_ ?_ ?_); rfl; rfl; rfl; (intro v9 w9 hO9 hm9 hv9; have HO9 := Lib.hid hO9; have HM9 := Lib.hid hm9; clear hO9 hm9 hv9); go_frame)
        | fail)
      have hO9 := HO9.out
      rw [← HTK.out] at hO9
      have hb9 : Below w1.heap.size w1 w9 := HB.out.trans (HM9.out.below HB.out.size fun x hx e => by have := HO.out.lo x e; omega)
      have HOF := Lib.hid hO9
      have HBF := Lib.hid hb9
      clear hO9 hb9
      go_roundw
      case rel => exact ⟨k + 1, by omega, by go_num, HBF.out, HOF.out⟩
      case measure => simp [intOf]; omega
    · obtain rfl : k = is.length := by omega
      have hO := HO.out
      rw [List.take_length] at hO
      have HOF := Lib.hid (hO.mono (B' := w.heap.size) HB1.out.size)
      have HBF := Lib.hid (HB1.out.trans (HB.out.mono HB1.out.size))
      clear hO hk hkl
      go_wp2
      go_ret
      exact ⟨_, is, rfl, HBY.out, hil, HOF.out, HBF.out⟩
theorem pdirty_any (h : CAt w F FD A l d P) : Calls Tryz.prog 12 #[.pointer (some ⟨A.c, 0, none⟩)] w fun e w' => SomeR w P qDirty e w' := by
  have hs := psome_any h 48 (enters_of Tryz.func48 (by kernel_rfl) rfl) #[] qDirty (dirty_q w)
  clear h
  go_enter Tryz.func12, Tryz.ntmps12
  go_wp2_with fail
  refine hs.mono ?_
  rintro e w2 ⟨v, is, rfl, hr⟩
  have HR := Lib.hid hr
  clear hs hr
  go_wp2
  go_ret
  exact ⟨v, is, rfl, HR.out⟩
theorem pall_any (h : CAt w F FD A l d P) : Calls Tryz.prog 14 #[.pointer (some ⟨A.c, 0, none⟩)] w fun e w' => SomeR w P qAll e w' := by
  have hs := psome_any h 49 (enters_of Tryz.func49 (by kernel_rfl) rfl) #[] qAll (all_q w)
  clear h
  go_enter Tryz.func14, Tryz.ntmps14
  go_wp2_with fail
  refine hs.mono ?_
  rintro e w2 ⟨v, is, rfl, hr⟩
  have HR := Lib.hid hr
  clear hs hr
  go_wp2
  go_ret
  exact ⟨v, is, rfl, HR.out⟩
set_option maxRecDepth 20000 in
theorem pof_any (h : CAt w F FD A l d P) (f : Int × Int) : Calls Tryz.prog 25 #[.pointer (some ⟨A.c, 0, none⟩), .agg #[.int .i64 f.1, .int .i64 f.2]] w fun e w' => SomeR w P (qFile f) e w' := by
  obtain ⟨w1, hw1⟩ : ∃ w1, w.alloc (.cells #[.int .i64 f.1, .int .i64 f.2] 33) = w1 := ⟨_, rfl⟩
  have hb1 : Below w.heap.size w w1 := by rw [← hw1]; exact (Below.refl _ _).alloc (Nat.le_refl _) _
  have hX : w1.heap[w.heap.size]? = some (.cells #[.int .i64 f.1, .int .i64 f.2] 33 (0, 0)) := by rw [← hw1]; exact heap_alloc_at
  have hs := psome_any (h.below hb1) 60 (enters_of Tryz.func60 (by kernel_rfl) rfl) #[.pointer (some ⟨w.heap.size, 0, none⟩)] (qFile f) (of_q hX)
  have HB1 := Lib.hid hb1
  clear h hb1 hX
  go_enter Tryz.func25, Tryz.ntmps25
  go_upto_region 1 with fail
  simp only [hw1] at *
  clear hw1
  go_wp2_with fail
  refine hs.mono ?_
  rintro e w2 ⟨v, is, rfl, h1, h2, h3, h4⟩
  have H1 := Lib.hid h1
  have H3 := Lib.hid (h3.mono HB1.out.size)
  have H4 := Lib.hid (HB1.out.trans (h4.mono HB1.out.size))
  clear hs h1 h3 h4
  go_wp2
  go_ret
  exact ⟨v, is, rfl, H1.out, h2, H3.out, H4.out⟩
set_option maxRecDepth 20000 in
set_option maxHeartbeats 4000000 in
theorem pdrop_any (h : CAt w F FD A l d P) (hf : Fit l d) (b : Blk) : Calls Tryz.prog 30 #[.pointer (some ⟨A.c, 0, none⟩), .agg (blC b)] w fun e w' => CW w F FD A (P.dropD l d b) e w' := by
  obtain ⟨w1, hw1⟩ : ∃ w1, w.alloc (.cells (blC b) 35) = w1 := ⟨_, rfl⟩
  have hb1 : Below w.heap.size w w1 := by rw [← hw1]; exact (Below.refl _ _).alloc (Nat.le_refl _) _
  have hB : Lies w1 w.heap.size 0 (blC b) := by rw [← hw1]; exact lies_of heap_alloc_at
  have hC1 := h.below hb1
  have hok := pok_any hC1
  have hltw := h.lt
  have c2 := hC1.c2
  obtain ⟨L, clk, hmap, hwf, hget⟩ := hC1.wh.ex
  have hgb := hget b
  have HB1 := Lib.hid hb1
  have HC1 := Lib.hid hC1
  have HLT := Lib.hid hltw
  have HF := Lib.hid hf
  clear h hb1 hC1 hget hltw hf
  go_enter Tryz.func30, Tryz.ntmps30
  go_upto_region 1 with fail
  simp only [hw1] at *
  clear hw1
  go_upto_region 3 with (first
    | (go_at_call 45; refine hok.mono ?_; rintro e wt ⟨rfl, hw⟩; obtain rfl := hw.symm; clear hw)
    | fail)
  have hS : w1.drew.cell? ⟨A.c, 2, none⟩ = some (.map (some A.wb)) ∧ Lies w1.drew w.heap.size 0 (blC b) ∧ w1.drew.heap[A.wb]? = some (.map (ents encB L) clk) := ⟨c2, hB, hmap⟩
  refine wp_region_x (fun w' => w'.cell? ⟨A.c, 2, none⟩ = some (.map (some A.wb)) ∧ Lies w' w.heap.size 0 (blC b) ∧ w'.heap[A.wb]? = some (.map (ents encB L) clk)) [(0, 1), (1, 1), (2, 1), (3, 0), (4, 0), (5, 0), (6, 1), (7, 1), (8, 1), (9, 1), (10, 1)] (by kernel_rfl) (by kernel_rfl) (by intro d v c a w h; cases d <;> exact h) ?_
  iterate 3 (refine x_take rfl (fun K hK => ?_); go_simp; refine hK _ ?_; clear hK K)
  refine x_read rfl hS (fun w' h => exec_load1 ⟨⟨_, Tryz.underlying66, rfl⟩⟩ rfl h.1) ?_
  refine x_read rfl hS (fun w' h => exec_loadA (aggBl b) rfl h.2.1) ?_
  refine x_read rfl hS (fun w' h => exec_lookup_ok keyB Tryz.underlying66 zeroI h.2.2 rfl b rfl) ?_
  iterate 5 (refine x_take rfl (fun K hK => ?_); go_simp; refine hK _ ?_; clear hK K)
  refine x_nil ?_
  simp only [getD, hgb]
  have hC2 : CAt w1.drew F FD A l d P := HC1.out.below (Below.refl w1.heap.size w1).drew
  have hb2 : Below w.heap.size w w1.drew := HB1.out.drew
  have HC2 := Lib.hid hC2
  have HB2 := Lib.hid hb2
  have hs2 : w.heap.size ≤ w1.drew.heap.size := hb2.size
  clear hS c2 hB hmap hok hwf hgb hC2 hb2 HC1
  generalize w1.drew = w2 at *
  cases hf : P.find b with
  | none =>
    have hpg : P.dropD l d b = (P, (l, d, 11)) := by unfold PC.dropD; rw [hf]
    simp only [Option.map, Option.getD, Option.isSome]
    clear hf
    go_wp2
    go_ret
    rw [hpg]
    exact ⟨rfl, CSt.ahead HB2.out (CSt.same HC2.out (Mod.refl _ _))⟩
  | some i =>
    have hpg : P.dropD l d b = P.turnD l d [i] tNo := by unfold PC.dropD; rw [hf]
    obtain ⟨hi, hu, -⟩ := (find_some HC2.out.ok).1 hf
    simp only [Option.map, Option.getD, Option.isSome]
    obtain ⟨w3, hw3⟩ : ∃ w3, w2.alloc (.cells #[.int .i64 (i : Nat)] 3) = w3 := ⟨_, rfl⟩
    have hb3 : Below w2.heap.size w2 w3 := by rw [← hw3]; exact (Below.refl _ _).alloc (Nat.le_refl _) _
    have hsl : LSl enI 1 w3 (.slice (some ⟨w2.heap.size, 0, none⟩) 1 1) ([i].map fun (i : Nat) => (i : Int)) := by
      rw [← hw3]
      exact LSl.lit (w := w2) (x := ((i : Nat) : Int)) elI.len 3
    have hb03 := HB2.out.trans (hb3.mono HB2.out.size)
    have htn := pturn_any (HC2.out.below hb3) HF.out (.slice (some ⟨w2.heap.size, 0, none⟩) 1 1) [i] hsl (fun r hr e => by
      have h0 : w2.heap.size = r := by cases hr; rfl
      have := HLT.out _ e
      omega) 68 (enters_of Tryz.func68 (by kernel_rfl) rfl) #[] tNo (drop_t _ _) (fun j hj => by
      rw [List.mem_singleton.1 hj]
      exact ⟨hi, good_no _⟩) (by simp)
    have HB03 := Lib.hid hb03
    have HPG := Lib.hid hpg
    clear hf hi hu hb3 hsl hb03 hpg
    subst hw3
    go_wp2_with fail
    refine htn.mono ?_
    rintro e w4 ⟨rfl, hst⟩
    have HST := Lib.hid (CSt.ahead HB03.out hst)
    clear htn hst
    go_wp2
    go_ret
    rw [HPG.out]
    exact ⟨rfl, HST.out⟩
set_option maxRecDepth 20000 in
set_option maxHeartbeats 4000000 in
theorem pdropFile_any (h : CAt w F FD A l d P) (hf : Fit l d) (f : Int × Int) : Calls Tryz.prog 31 #[.pointer (some ⟨A.c, 0, none⟩), .agg #[.int .i64 f.1, .int .i64 f.2]] w
    fun e w' => ∃ is, ByBlk P (qFile f) is ∧ CW w F FD A (P.turnD l d is tNo) e w' := by
  obtain ⟨w1, hw1⟩ : ∃ w1, w.alloc (.cells #[.int .i64 f.1, .int .i64 f.2] 33) = w1 := ⟨_, rfl⟩
  have hb1 : Below w.heap.size w w1 := by rw [← hw1]; exact (Below.refl _ _).alloc (Nat.le_refl _) _
  have hX : w1.heap[w.heap.size]? = some (.cells #[.int .i64 f.1, .int .i64 f.2] 33 (0, 0)) := by rw [← hw1]; exact heap_alloc_at
  have hC1 := h.below hb1
  have hok := pok_any hC1
  have hltw := h.lt
  have hpl := pplaces_any hC1 70 (enters_of Tryz.func70 (by kernel_rfl) rfl) #[.pointer (some ⟨w.heap.size, 0, none⟩)] (qFile f) (dropFile_q hX)
  have HB1 := Lib.hid hb1
  have HC1 := Lib.hid hC1
  have HLT := Lib.hid hltw
  have HF := Lib.hid hf
  clear h hb1 hX hC1 hltw hf
  go_enter Tryz.func31, Tryz.ntmps31
  go_upto_region 1 with fail
  simp only [hw1] at *
  clear hw1
  go_wp2_with (first
    | (go_at_call 45; refine hok.mono ?_; rintro e wt ⟨rfl, hw⟩; obtain rfl := hw.symm; clear hw)
    | fail)
  refine hpl.mono ?_
  rintro e w2 ⟨v, is, rfl, hby, hR, hb2⟩
  have hb02 := HB1.out.trans (hb2.mono HB1.out.size)
  have htn := pturn_any (HC1.out.below hb2) HF.out v is hR.sl (fun r hr e => by
    have h1 := hR.lo r hr
    have h2 := HLT.out _ e
    have h3 := HB1.out.size
    omega) 71 (enters_of Tryz.func71 (by kernel_rfl) rfl) #[] tNo (dropFile_t _ _) (fun j hj => ⟨((hby.mem j).1 hj).1, good_no _⟩) hby.nodup
  have HB02 := Lib.hid hb02
  have HBY := Lib.hid hby
  clear hpl hR hb2 hby hb02 hok
  go_wp2_with fail
  refine htn.mono ?_
  rintro e w4 ⟨rfl, hst⟩
  have HST := Lib.hid (CSt.ahead HB02.out hst)
  clear htn hst
  go_wp2
  go_ret
  exact ⟨is, HBY.out, rfl, HST.out⟩
set_option maxRecDepth 20000 in
set_option maxHeartbeats 4000000 in
theorem pretag_any (h : CAt w F FD A l d P) (hf : Fit l d) (f : Int × Int) (v : Nat) (hv : v ≤ 1099511627775) : Calls Tryz.prog 32 #[.pointer (some ⟨A.c, 0, none⟩), .agg #[.int .i64 f.1, .int .i64 f.2], .int .u64 (v : Nat)] w
    fun e w' => ∃ is, ByBlk P (qClean f) is ∧ CW w F FD A (P.turnD l d is (tVer v)) e w' := by
  obtain ⟨w1, hw1⟩ : ∃ w1, (w.alloc (.cells #[.int .i64 f.1, .int .i64 f.2] 33)).alloc (.cells #[.int .u64 (v : Nat)] 36) = w1 := ⟨_, rfl⟩
  have hb0 : Below w.heap.size w (w.alloc (.cells #[.int .i64 f.1, .int .i64 f.2] 33)) := (Below.refl _ _).alloc (Nat.le_refl _) _
  have hb1 : Below w.heap.size w w1 := by rw [← hw1]; exact hb0.alloc (by simp) _
  have hX : w1.heap[w.heap.size]? = some (.cells #[.int .i64 f.1, .int .i64 f.2] 33 (0, 0)) := by rw [← hw1]; exact heap_alloc_of heap_alloc_at
  have cv : w1.cell? ⟨w.heap.size + 1, 0, none⟩ = some (.int .u64 (v : Nat)) := by
    rw [← hw1]
    have := heap_alloc_at (w := w.alloc (.cells #[.int .i64 f.1, .int .i64 f.2] 33)) (o := .cells #[.int .u64 (v : Nat)] 36)
    rw [World.size_alloc] at this
    exact cell_of this rfl
  have hC1 := h.below hb1
  have hok := pok_any hC1
  have hltw := h.lt
  have hv' : (v : Int) ≤ 1099511627775 := by omega
  have hpl := pplaces_any hC1 72 (enters_of Tryz.func72 (by kernel_rfl) rfl) #[.pointer (some ⟨w.heap.size, 0, none⟩)] (qClean f) (retag_q hX)
  have HB1 := Lib.hid hb1
  have HC1 := Lib.hid hC1
  have HLT := Lib.hid hltw
  have HF := Lib.hid hf
  have HV := Lib.hid hv
  clear h hb0 hb1 hX hC1 hltw hf hv
  go_enter Tryz.func32, Tryz.ntmps32
  go_upto_region 1 with fail
  simp only [hw1] at *
  clear hw1
  go_wp2_with (first
    | (go_at_call 45; refine hok.mono ?_; rintro e wt ⟨rfl, hw⟩; obtain rfl := hw.symm; clear hw)
    | fail)
  refine hpl.mono ?_
  rintro e w2 ⟨vv, is, rfl, hby, hR, hb2⟩
  have hb02 := HB1.out.trans (hb2.mono HB1.out.size)
  have cv2 := (hb2.cell (p := ⟨w.heap.size + 1, 0, none⟩) (World.block_lt_of_cell? w1 _ cv)).trans cv
  have htn := pturn_any (HC1.out.below hb2) HF.out vv is hR.sl (fun r hr e => by
    have h1 := hR.lo r hr
    have h2 := HLT.out _ e
    have h3 := HB1.out.size
    omega) 73 (enters_of Tryz.func73 (by kernel_rfl) rfl) #[.pointer (some ⟨w.heap.size + 1, 0, none⟩)] (tVer v) (retag_t cv2 (fun e => by have := HLT.out _ e; omega)) (fun j hj => by
      obtain ⟨h1, h2, h3⟩ := (hby.mem j).1 hj
      exact ⟨h1, good_ver (HC1.out.ok.is _ (List.mem_of_getElem? (at_get h1))) h2 HV.out⟩) hby.nodup
  have HB02 := Lib.hid hb02
  have HBY := Lib.hid hby
  clear hpl hR hb2 hby hb02 hok cv cv2
  go_wp2_with fail
  refine htn.mono ?_
  rintro e w4 ⟨rfl, hst⟩
  have HST := Lib.hid (CSt.ahead HB02.out hst)
  clear htn hst
  go_wp2
  go_ret
  exact ⟨is, HBY.out, rfl, HST.out⟩
set_option maxRecDepth 20000 in
theorem pretag_arg (h : CAt w F FD A l d P) (f : Int × Int) (v : Nat) (hv : ¬ v ≤ 1099511627775) (h64 : v < 18446744073709551616) : Calls Tryz.prog 32 #[.pointer (some ⟨A.c, 0, none⟩), .agg #[.int .i64 f.1, .int .i64 f.2], .int .u64 (v : Nat)] w
    fun e w' => e = .returned (.int .i64 2) ∧ Below w.heap.size w w' := by
  obtain ⟨w1, hw1⟩ : ∃ w1, (w.alloc (.cells #[.int .i64 f.1, .int .i64 f.2] 33)).alloc (.cells #[.int .u64 (v : Nat)] 36) = w1 := ⟨_, rfl⟩
  have hb0 : Below w.heap.size w (w.alloc (.cells #[.int .i64 f.1, .int .i64 f.2] 33)) := (Below.refl _ _).alloc (Nat.le_refl _) _
  have hb1 : Below w.heap.size w w1 := by rw [← hw1]; exact hb0.alloc (by simp) _
  have cv : w1.cell? ⟨w.heap.size + 1, 0, none⟩ = some (.int .u64 (v : Nat)) := by
    rw [← hw1]
    have := heap_alloc_at (w := w.alloc (.cells #[.int .i64 f.1, .int .i64 f.2] 33)) (o := .cells #[.int .u64 (v : Nat)] 36)
    rw [World.size_alloc] at this
    exact cell_of this rfl
  have hok := pok_any (h.below hb1)
  have hv' : (1099511627775 : Int) < (v : Int) := by omega
  have HB1 := Lib.hid hb1
  clear h hb0 hb1 hv
  go_enter Tryz.func32, Tryz.ntmps32
  go_upto_region 1 with fail
  simp only [hw1] at *
  clear hw1
  go_wp2_with (first
    | (go_at_call 45; refine hok.mono ?_; rintro e wt ⟨rfl, hw⟩; obtain rfl := hw.symm; clear hw)
    | fail)
  go_ret
  exact ⟨rfl, HB1.out⟩
end
end Go.Proofs.YtldimgchpgoggaaGreat
