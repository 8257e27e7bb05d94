/- The calls that a law of the cache's is handed; few of them: walked. -/
import Derived.Test.YtldimgchpgoggaaGreatMgOpn30
import Derived.Deep.Cut
import Derived.WalkKit
import Derived.ProofKit
import Derived.OpenShut
import Derived.ShutString
import Derived.ChangeOld
import Derived.Below
import Derived.Lib.SmallJoins
/- Blocks that are kept: what answers that no call made: walked (printed by genpcv.py). -/
namespace Go.Proofs.YtldimgchpgoggaaGreat
open Go.RowKit Go.Tn Go.Tn.Bt Go.Tn.Lp Go.Tn.Dk Go.Tn.Ino Go.Tn.Slo Go.Tn.Ck Go.Tn.Pc
/-- No cache. -/
def NoC (w : World) (a : Option Addr) : Prop := ∀ w', Below w.heap.size w w' → Calls Tryz.prog 45 #[.pointer a] w' fun e w'' => e = .returned (.bool false) ∧ w'' = w'
theorem NoC.below {w w' : World} {a : Option Addr} (h : NoC w a) (hb : Below w.heap.size w w') : NoC w' a := fun w2 h2 => h w2 (hb.trans (h2.mono hb.size))
theorem noC_nil (w : World) : NoC w none := fun w' _ => by
  go_enter Tryz.func45, Tryz.ntmps45
  go_wp2
  go_ret
  exact ⟨rfl, rfl⟩
theorem noC_zero (w : World) (b : Nat) (hc : w.cell? ⟨b, 0, none⟩ = some (.pointer none)) : NoC w (some ⟨b, 0, none⟩) := fun w' hb => by
  have hc' := (hb.cell (p := ⟨b, 0, none⟩) (World.block_lt_of_cell? w _ hc)).trans hc
  clear hc hb
  go_enter Tryz.func45, Tryz.ntmps45
  go_wp2
  go_ret
  exact ⟨rfl, rfl⟩
section
variable {w : World} {a : Option Addr}
set_option maxRecDepth 20000 in
theorem pput_no (h : NoC w a) (x : Slt) : Calls Tryz.prog 29 #[.pointer a, .agg (slC x)] w fun e w' => e = .returned (.int .i64 1) ∧ Below w.heap.size w w' := by
  obtain ⟨w1, hw1⟩ : ∃ w1, w.alloc (.cells (slC x) 42) = w1 := ⟨_, rfl⟩
  have hb1 : Below w.heap.size w w1 := by rw [← hw1]; exact (Below.refl _ _).alloc (Nat.le_refl _) _
  have hok := h w1 hb1
  clear h
  go_enter Tryz.func29, Tryz.ntmps29
  go_upto_region 1 with fail
  simp only [hw1] at *
  clear hw1
  go_wp2_with (first
    | (go_at_call 45; refine hok.mono ?_; rintro e wt ⟨rfl, hw⟩; obtain rfl := hw.symm; clear hw)
    | fail)
  go_ret
  exact ⟨rfl, hb1⟩
set_option maxRecDepth 20000 in
theorem pdrop_no (h : NoC w a) (b : Blk) : Calls Tryz.prog 30 #[.pointer a, .agg (blC b)] w fun e w' => e = .returned (.int .i64 1) ∧ Below w.heap.size w w' := by
  obtain ⟨w1, hw1⟩ : ∃ w1, w.alloc (.cells (blC b) 35) = w1 := ⟨_, rfl⟩
  have hb1 : Below w.heap.size w w1 := by rw [← hw1]; exact (Below.refl _ _).alloc (Nat.le_refl _) _
  have hok := h w1 hb1
  clear h
  go_enter Tryz.func30, Tryz.ntmps30
  go_upto_region 1 with fail
  simp only [hw1] at *
  clear hw1
  go_wp2_with (first
    | (go_at_call 45; refine hok.mono ?_; rintro e wt ⟨rfl, hw⟩; obtain rfl := hw.symm; clear hw)
    | fail)
  go_ret
  exact ⟨rfl, hb1⟩
set_option maxRecDepth 20000 in
theorem pdropFile_no (h : NoC w a) (i g : Int) : Calls Tryz.prog 31 #[.pointer a, .agg #[.int .i64 i, .int .i64 g]] w fun e w' => e = .returned (.int .i64 1) ∧ Below w.heap.size w w' := by
  obtain ⟨w1, hw1⟩ : ∃ w1, w.alloc (.cells #[.int .i64 i, .int .i64 g] 33) = w1 := ⟨_, rfl⟩
  have hb1 : Below w.heap.size w w1 := by rw [← hw1]; exact (Below.refl _ _).alloc (Nat.le_refl _) _
  have hok := h w1 hb1
  clear h
  go_enter Tryz.func31, Tryz.ntmps31
  go_upto_region 1 with fail
  simp only [hw1] at *
  clear hw1
  go_wp2_with (first
    | (go_at_call 45; refine hok.mono ?_; rintro e wt ⟨rfl, hw⟩; obtain rfl := hw.symm; clear hw)
    | fail)
  go_ret
  exact ⟨rfl, hb1⟩
set_option maxRecDepth 20000 in
theorem pretag_no (h : NoC w a) (i g v : Int) : Calls Tryz.prog 32 #[.pointer a, .agg #[.int .i64 i, .int .i64 g], .int .u64 v] w fun e w' => e = .returned (.int .i64 1) ∧ Below w.heap.size w w' := by
  obtain ⟨w1, hw1⟩ : ∃ w1, (w.alloc (.cells #[.int .i64 i, .int .i64 g] 33)).alloc (.cells #[.int .u64 v] 36) = w1 := ⟨_, rfl⟩
  have hb1 : Below w.heap.size w w1 := by rw [← hw1]; exact ((Below.refl _ _).alloc (Nat.le_refl _) _).alloc (by simp) _
  have hok := h w1 hb1
  clear h
  go_enter Tryz.func32, Tryz.ntmps32
  go_upto_region 1 with fail
  simp only [hw1] at *
  clear hw1
  go_wp2_with (first
    | (go_at_call 45; refine hok.mono ?_; rintro e wt ⟨rfl, hw⟩; obtain rfl := hw.symm; clear hw)
    | fail)
  go_ret
  exact ⟨rfl, hb1⟩
set_option maxRecDepth 20000 in
theorem psetNumber_no (h : NoC w a) (v : Int) : Calls Tryz.prog 33 #[.pointer a, .int .u64 v] w fun e w' => e = .returned (.int .i64 1) ∧ Below w.heap.size w w' := by
  have hok := h w (Below.refl _ _)
  clear h
  go_enter Tryz.func33, Tryz.ntmps33
  go_wp2_with (first
    | (go_at_call 45; refine hok.mono ?_; rintro e wt ⟨rfl, hw⟩; obtain rfl := hw.symm; clear hw)
    | fail)
  go_ret
  exact ⟨rfl, Below.refl _ _⟩
set_option maxRecDepth 20000 in
theorem psync_no (h : NoC w a)  : Calls Tryz.prog 34 #[.pointer a] w fun e w' => e = .returned (.int .i64 1) ∧ Below w.heap.size w w' := by
  have hok := h w (Below.refl _ _)
  clear h
  go_enter Tryz.func34, Tryz.ntmps34
  go_wp2_with (first
    | (go_at_call 45; refine hok.mono ?_; rintro e wt ⟨rfl, hw⟩; obtain rfl := hw.symm; clear hw)
    | fail)
  go_ret
  exact ⟨rfl, Below.refl _ _⟩
set_option maxRecDepth 20000 in
theorem pnumber_no (h : NoC w a)  : Calls Tryz.prog 35 #[.pointer a] w fun e w' => e = .returned (.int .u64 0) ∧ Below w.heap.size w w' := by
  have hok := h w (Below.refl _ _)
  clear h
  go_enter Tryz.func35, Tryz.ntmps35
  go_wp2_with (first
    | (go_at_call 45; refine hok.mono ?_; rintro e wt ⟨rfl, hw⟩; obtain rfl := hw.symm; clear hw)
    | fail)
  go_ret
  exact ⟨rfl, Below.refl _ _⟩
set_option maxRecDepth 20000 in
set_option maxHeartbeats 1000000 in
theorem pget_no (h : NoC w a) (b : Blk) : Calls Tryz.prog 11 #[.pointer a, .agg (blC b)] w fun e w' => e = .returned (.tuple #[.agg (slC Slt.no), .bool false]) ∧ Below w.heap.size w w' := by
  obtain ⟨w1, hw1⟩ : ∃ w1, (w.alloc (.cells (blC b) 35)).alloc (.cells #[.bool false, .int .i64 0, .int .i64 0, .int .i64 0, .int .u64 0, .bool false, .string { data := #[] }] 42) = w1 := ⟨_, rfl⟩
  have hb0 : Below w.heap.size w (w.alloc (.cells (blC b) 35)) := (Below.refl _ _).alloc (Nat.le_refl _) _
  have hb1 : Below w.heap.size w w1 := by rw [← hw1]; exact hb0.alloc (by simp) _
  have hZ : w1.heap[w.heap.size + 1]? = some (.cells (slC Slt.no) 42 (0, 0)) := by
    rw [← hw1]
    have := heap_alloc_at (w := w.alloc (.cells (blC b) 35)) (o := .cells #[.bool false, .int .i64 0, .int .i64 0, .int .i64 0, .int .u64 0, .bool false, .string { data := #[] }] 42)
    rw [World.size_alloc] at this
    exact this
  have hok := h w1 hb1
  have hagn := aggSl Slt.no
  have honn := oneSl Slt.no
  have hbn := built_no
  have HB1 := Lib.hid hb1
  clear h hb0 hb1
  go_enter Tryz.func11, Tryz.ntmps11
  go_upto_region 1 with fail
  simp only [hw1] at *
  clear hw1
  go_wp2_with (first
    | (go_at_call 45; refine hok.mono ?_; rintro e wt ⟨rfl, hw⟩; obtain rfl := hw.symm; clear hw)
    | ((with_reducible refine wpList_exec rfl (exec_buildA (vals := []) ?_ hbn) ?_); rfl; go_frame)
    | ((with_reducible refine wpList_storeB hagn ?_ ?_ hZ rfl honn ?_); rfl; rfl; (intro w9 hh9 hm9; have HH9 := Lib.hid hh9; have HM9 := Lib.hid hm9; clear hh9 hm9); go_frame)
    | fail)
  refine bodyPost_ret (results_cellT rfl _ rfl hagn (lies_of HH9.out)) rfl ?_
  exact ⟨rfl, HB1.out.trans (HM9.out.below HB1.out.size fun y hy e => by have e : y = w.heap.size + 1 := e; omega)⟩
set_option maxRecDepth 20000 in
theorem pplaces_no (h : NoC w a) (fv : Value) (g : Nat) (cb : Array Value) : Calls Tryz.prog 69 #[.pointer a, .func (.func g) #[] cb] w fun e w' => e = .returned (.slice none 0 0) ∧ Below w.heap.size w w' := by
  obtain ⟨w1, hw1⟩ : ∃ w1, w.alloc (.cells #[.pointer a] 29) = w1 := ⟨_, rfl⟩
  have hb1 : Below w.heap.size w w1 := by rw [← hw1]; exact (Below.refl _ _).alloc (Nat.le_refl _) _
  have cx : w1.cell? ⟨w.heap.size, 0, none⟩ = some (.pointer a) := by rw [← hw1]; exact cell_of heap_alloc_at rfl
  have hok := h w1 hb1
  have HB1 := Lib.hid hb1
  clear h hb1
  go_enter Tryz.func69, Tryz.ntmps69
  go_upto_region 1 with fail
  simp only [hw1] at *
  clear hw1
  go_wp2_with (first
    | (go_at_call 45; refine hok.mono ?_; rintro e wt ⟨rfl, hw⟩; obtain rfl := hw.symm; clear hw)
    | fail)
  go_ret
  exact ⟨rfl, HB1.out⟩
theorem psome_no (h : NoC w a) (g : Nat) (cb : Array Value) : Calls Tryz.prog 47 #[.pointer a, .func (.func g) #[] cb] w fun e w' => e = .returned (.slice none 0 0) ∧ Below w.heap.size w w' := by
  have hpl := pplaces_no h (.int .i64 0) g cb
  clear h
  go_enter Tryz.func47, Tryz.ntmps47
  go_wp2_with fail
  refine hpl.mono ?_
  rintro e w2 ⟨rfl, hb2⟩
  have HB2 := Lib.hid hb2
  clear hpl hb2
  go_wp2
  refine wp_loop_rounds 1 ?_
  rw [rounds_succ]
  go_wp2
  go_ret
  exact ⟨rfl, HB2.out⟩
theorem pdirty_no (h : NoC w a) : Calls Tryz.prog 12 #[.pointer a] w fun e w' => e = .returned (.slice none 0 0) ∧ Below w.heap.size w w' := by
  have hs := psome_no h 48 #[]
  clear h
  go_enter Tryz.func12, Tryz.ntmps12
  go_wp2_with fail
  refine hs.mono ?_
  rintro e w2 ⟨rfl, hb⟩
  have HB := Lib.hid hb
  clear hs hb
  go_wp2
  go_ret
  exact ⟨rfl, HB.out⟩
theorem pall_no (h : NoC w a) : Calls Tryz.prog 14 #[.pointer a] w fun e w' => e = .returned (.slice none 0 0) ∧ Below w.heap.size w w' := by
  have hs := psome_no h 49 #[]
  clear h
  go_enter Tryz.func14, Tryz.ntmps14
  go_wp2_with fail
  refine hs.mono ?_
  rintro e w2 ⟨rfl, hb⟩
  have HB := Lib.hid hb
  clear hs hb
  go_wp2
  go_ret
  exact ⟨rfl, HB.out⟩
set_option maxRecDepth 20000 in
theorem pof_no (h : NoC w a) (i g : Int) : Calls Tryz.prog 25 #[.pointer a, .agg #[.int .i64 i, .int .i64 g]] w fun e w' => e = .returned (.slice none 0 0) ∧ Below w.heap.size w w' := by
  obtain ⟨w1, hw1⟩ : ∃ w1, w.alloc (.cells #[.int .i64 i, .int .i64 g] 33) = w1 := ⟨_, rfl⟩
  have hb1 : Below w.heap.size w w1 := by rw [← hw1]; exact (Below.refl _ _).alloc (Nat.le_refl _) _
  have hs := psome_no (h.below hb1) 60 #[.pointer (some ⟨w.heap.size, 0, none⟩)]
  have HB1 := Lib.hid hb1
  clear h hb1
  go_enter Tryz.func25, Tryz.ntmps25
  go_upto_region 1 with fail
  simp only [hw1] at *
  clear hw1
  go_wp2_with fail
  refine hs.mono ?_
  rintro e w2 ⟨rfl, hb⟩
  have HB := Lib.hid (HB1.out.trans (hb.mono HB1.out.size))
  clear hs hb
  go_wp2
  go_ret
  exact ⟨rfl, HB.out⟩
end
/-- The document's slot as the program's. -/
theorem aggXs (x : Slt) : AggT Tryz.prog 38 (slC x).size := ⟨⟨_, Tryz.underlying38, rfl⟩, by kernel_rfl⟩
theorem built_slt (u : Bool) (i g a v : Int) (dy : Bool) (s : ByteArray) : Tryz.prog.built 42 [(0, .bool u), (1, .agg #[.int .i64 i, .int .i64 g, .int .i64 a]), (2, .int .u64 v), (3, .bool dy), (4, .string s)] = some #[.bool u, .int .i64 i, .int .i64 g, .int .i64 a, .int .u64 v, .bool dy, .string s] := by kernel_rfl
theorem slC_blk {w : World} {b : Nat} {x : Slt} {T : TypeId} (h : w.heap[b]? = some (.cells (slC x) T (0, 0))) : Lies w b 1 (blC x.blk) := fun j hj => by
  match j, hj with
  | 0, _ => exact cell_of h rfl
  | 1, _ => exact cell_of h rfl
  | 2, _ => exact cell_of h rfl
set_option maxRecDepth 20000 in
set_option maxHeartbeats 2000000 in
theorem mine_any (w : World) (x : Slt) : Calls Tryz.prog 19 #[.agg (slC x)] w fun e w' => e = .returned (.agg (slC x)) ∧ Below w.heap.size w w' := by
  obtain ⟨w1, hw1⟩ : ∃ w1, (w.alloc (.cells (slC x) 38)).alloc (.cells #[.bool false, .int .i64 0, .int .i64 0, .int .i64 0, .int .u64 0, .bool false, .string { data := #[] }] 42) = w1 := ⟨_, rfl⟩
  have hb0 : Below w.heap.size w (w.alloc (.cells (slC x) 38)) := (Below.refl _ _).alloc (Nat.le_refl _) _
  have hb1 : Below w.heap.size w w1 := by rw [← hw1]; exact hb0.alloc (by simp) _
  have hX : w1.heap[w.heap.size]? = some (.cells (slC x) 38 (0, 0)) := by rw [← hw1]; exact heap_alloc_of heap_alloc_at
  have hZ : w1.heap[w.heap.size + 1]? = some (.cells (slC Slt.no) 42 (0, 0)) := by
    rw [← hw1]
    have := heap_alloc_at (w := w.alloc (.cells (slC x) 38)) (o := .cells #[.bool false, .int .i64 0, .int .i64 0, .int .i64 0, .int .u64 0, .bool false, .string { data := #[] }] 42)
    rw [World.size_alloc] at this
    exact this
  have hLb := slC_blk hX
  have hagb := aggBl x.blk
  have hagx := aggSl x
  have honx := oneSl x
  have q0 : w1.cell? ⟨w.heap.size, 0, none⟩ = some (.bool x.used) := cell_of hX rfl
  have q4 : w1.cell? ⟨w.heap.size, 4, none⟩ = some (.int .u64 (x.ver : Nat)) := cell_of hX rfl
  have q5 : w1.cell? ⟨w.heap.size, 5, none⟩ = some (.bool x.dirty) := cell_of hX rfl
  have q6 : w1.cell? ⟨w.heap.size, 6, none⟩ = some (.string x.data) := cell_of hX rfl
  have hbn := built_slt x.used x.blk.1 x.blk.2.1 x.blk.2.2 (x.ver : Nat) x.dirty x.data
  have HB1 := Lib.hid hb1
  clear hb0 hb1 hX
  go_enter Tryz.func19, Tryz.ntmps19
  go_upto_region 1 with fail
  simp only [hw1] at *
  clear hw1
  go_wp2_with (first
    | ((with_reducible refine wpList_loadA hagb hLb ?_ ?_); rfl; go_frame)
    | ((with_reducible refine wpList_exec rfl (exec_buildA (vals := [(0, .bool x.used), (1, .agg (blC x.blk)), (2, .int .u64 (x.ver : Nat)), (3, .bool x.dirty), (4, .string x.data)]) ?_ hbn) ?_); rfl; go_frame)
    | ((with_reducible refine wpList_storeB (cs := slC x) hagx ?_ ?_ hZ rfl honx ?_); rfl; rfl; (intro w9 hh9 hm9; have HH9 := Lib.hid hh9; have HM9 := Lib.hid hm9; clear hh9 hm9); go_frame)
    | fail)
  refine bodyPost_ret (results_cellA rfl _ rfl hagx (lies_of HH9.out)) rfl ?_
  exact ⟨rfl, HB1.out.trans (HM9.out.below HB1.out.size fun y hy e => by have e : y = w.heap.size + 1 := e; omega)⟩
/-- A text cut short. -/
theorem short_any (w : World) (s : ByteArray) (n : Nat) (hs : s.size ≤ maxLen) (hn : n ≤ 1000) : Calls Tryz.prog 27 #[.string s, .int .i64 n] w fun e w' => ∃ t, e = .returned (.string t) ∧ t.size ≤ n ∧ w' = w := by
  unfold maxLen at hs
  by_cases h : n < s.size
  · have h' : (n : Int) < (s.size : Int) := by omega
    go_enter Tryz.func27, Tryz.ntmps27
    go_wp2
    go_ret
    refine ⟨_, rfl, ?_, rfl⟩
    simp
    omega
  · have h' : (s.size : Int) ≤ (n : Int) := by omega
    go_enter Tryz.func27, Tryz.ntmps27
    go_wp2
    go_ret
    exact ⟨_, rfl, by omega, rfl⟩
end Go.Proofs.YtldimgchpgoggaaGreat

/- Blocks that are kept: Open of a new disk, whatever the numbers. -/
namespace Go.Proofs.YtldimgchpgoggaaGreat
open Go.RowKit Go.Tn Go.Tn.Bt Go.Tn.Lp Go.Tn.Dk Go.Tn.Ino Go.Tn.Slo Go.Tn.Ck Go.Tn.Pc
def within (x lo hi : Int) : Int := if x < lo then lo else if hi < x then hi else x
theorem within_any (w : World) (x a b : Int) : Calls Tryz.prog 7 #[.int .i64 x, .int .i64 a, .int .i64 b] w fun e w' => e = .returned (.int .i64 (within x a b)) ∧ w' = w := by
  unfold within
  by_cases h1 : x < a
  · have hd1 : decide (x < a) = true := by simp [h1]
    rw [if_pos h1]
    go_enter Tryz.func7, Tryz.ntmps7
    go_wp2
    go_ret
    exact ⟨rfl, rfl⟩
  · have hd1 : decide (x < a) = false := by simp; omega
    rw [if_neg h1]
    by_cases h2 : b < x
    · have hd2 : decide (b < x) = true := by simp [h2]
      rw [if_pos h2]
      go_enter Tryz.func7, Tryz.ntmps7
      go_wp2
      go_ret
      exact ⟨rfl, rfl⟩
    · have hd2 : decide (b < x) = false := by simp; omega
      rw [if_neg h2]
      go_enter Tryz.func7, Tryz.ntmps7
      go_wp2
      go_ret
      exact ⟨rfl, rfl⟩
section
variable {w : World} {FD : Nat → Prop} {p k : Nat}
theorem gopen_newk (hd : DAt w FD p (newD k)) (h1 : 1 ≤ k) (h2 : k ≤ 200) (n : Int) : Calls Tryz.prog 41 #[.pointer (some ⟨p, 0, none⟩), .int .i64 n] w fun e w' => ∃ g en, e = .returned (.tuple #[.pointer g, .int .i64 en]) ∧ Below w.heap.size w w' := by
  have hL : (newD k).L.length = k := by simp [newD]
  by_cases hn : n < 2 ∨ ((newD k).L.length : Int) - 3 < n
  · refine (open_arg hd n hn).mono ?_
    rintro e w' ⟨rfl, rfl⟩
    exact ⟨_, _, rfl, Below.refl _ _⟩
  · rw [hL] at hn
    obtain ⟨m, rfl⟩ := Int.eq_ofNat_of_zero_le (show 0 ≤ n by omega)
    refine (open_main hd m (by omega) (by rw [hL]; omega) (by omega) (by rw [newest_zero _ _ (by omega)]; decide) _ (open_new (by omega) (by omega))).mono ?_
    rintro e w' ⟨g, F, rfl, -, hb, -⟩
    exact ⟨_, _, rfl, hb⟩
/-- With which disks, rings and slots there is a cache. -/
def rightO (k n s : Int) : Prop := 20 ≤ n ∧ n ≤ k - 4 ∧ 1 ≤ s ∧ s ≤ 64 ∧ s ≤ k - n - 3
instance (k n s : Int) : Decidable (rightO k n s) := by unfold rightO; infer_instance
set_option maxRecDepth 20000 in
set_option maxHeartbeats 4000000 in
theorem popen_no (hd : DAt w FD p (newD k)) (h1 : 1 ≤ k) (h2 : k ≤ 200) (n s : Int) (hn : -9223372036854775808 ≤ n ∧ n < 9223372036854775808) (hs : -9223372036854775808 ≤ s ∧ s < 9223372036854775808) (hr : ¬ rightO k n s) :
    Calls Tryz.prog 10 #[.pointer (some ⟨p, 0, none⟩), .int .i64 n, .int .i64 s] w fun e w' => e = .returned (.tuple #[.pointer none, .int .i64 2]) ∧ Below w.heap.size w w' := by
  have hL : (newD k).L.length = k := by simp [newD]
  have hop := gopen_newk hd h1 h2 n
  have hsz := fun w' (h : DAt w' FD p (newD k)) => size_any h
  rw [hL] at hsz
  have HD := Lib.hid hd
  have HSZ := Lib.hid hsz
  have hk0 : ((k : Int) == 0) = false := beq_eq_false_iff_ne.2 (by omega)
  have hk1 : (1 : Int) ≤ k := by omega
  have hk2 : (k : Int) ≤ 200 := by omega
  obtain ⟨hn1, hn2⟩ := hn
  obtain ⟨hs1, hs2⟩ := hs
  unfold rightO at hr
  clear hd hL hsz h1 h2
  have hc : n < 20 ∨ ¬ n < 20 ∧ s < 1 ∨ ¬ n < 20 ∧ ¬ s < 1 ∧ 64 < s ∨ ¬ n < 20 ∧ ¬ s < 1 ∧ ¬ 64 < s ∧ (k : Int) - s - 3 < n := by omega
  clear hr
  rcases hc with c1 | ⟨c1, c2⟩ | ⟨c1, c2, c3⟩ | ⟨c1, c2, c3, c4⟩
  all_goals
    go_enter Tryz.func10, Tryz.ntmps10
    go_wp2_with fail
    refine hop.mono ?_
    rintro e w2 ⟨g, en, rfl, hb2⟩
    have hs2' := HSZ.out _ (HD.out.below hb2)
    have HB2 := Lib.hid hb2
    clear hop hb2
    go_wp2_with (first
      | (go_at_call 42; refine hs2'.mono ?_; rintro e wt ⟨rfl, hw⟩; obtain rfl := hw.symm; clear hw)
      | fail)
    go_ret2
    exact ⟨rfl, HB2.out⟩
theorem popen_yes (hd : DAt w FD p (newD k)) (h2 : k ≤ 200) (n s : Int) (hr : rightO k n s) :
    Calls Tryz.prog 10 #[.pointer (some ⟨p, 0, none⟩), .int .i64 n, .int .i64 s] w fun e w' => (∃ c, e = .returned (.tuple #[.pointer (some ⟨c, 0, none⟩), .int .i64 0])) ∧ Below w.heap.size w w' := by
  obtain ⟨r1, r2, r3, r4, r5⟩ := hr
  obtain ⟨m, rfl⟩ := Int.eq_ofNat_of_zero_le (show 0 ≤ n by omega)
  obtain ⟨t, rfl⟩ := Int.eq_ofNat_of_zero_le (show 0 ≤ s by omega)
  have hL : (newD k).L.length = k := by simp [newD]
  have hlen : (List.replicate t Slt.no).length = t := List.length_replicate
  have hcl := clive_init (n := m) (size := k) (by omega) (by omega) (by omega)
  obtain ⟨s1, s2⟩ := shows_home (shows_new (n := m) (k := k) (slots := t) (by omega))
  have := popen_any (l := log0 m 1 0 0) hd m (List.replicate t Slt.no) 0 (by omega) (by omega) (by rw [hlen]; omega) (by rw [hlen]; omega) (by rw [hlen, hL]; omega) (by rw [newest_zero _ _ (by omega)]; decide) (open_new (by omega) (by omega)) (hcl.ok (by decide)) rfl
    (Lays.of (new_ok t 0)) (by decide) s1 s2
  rw [hlen] at this
  refine this.mono ?_
  rintro e w' ⟨A, F, he, -, -, hb, -⟩
  exact ⟨⟨A.c, he⟩, hb⟩
end
set_option maxRecDepth 20000 in
theorem popen_nil (w : World) (n s : Int) : Calls Tryz.prog 10 #[.pointer none, .int .i64 n, .int .i64 s] w fun e w' => e = .returned (.tuple #[.pointer none, .int .i64 1]) ∧ w' = w := by
  go_enter Tryz.func10, Tryz.ntmps10
  go_wp2_with (first
    | (go_at_call 41; refine (open_nil _ _).mono ?_; rintro e w2 ⟨rfl, hw⟩; obtain rfl := hw.symm; clear hw)
    | (go_at_call 42; refine (size_nil _).mono ?_; rintro e wt ⟨rfl, hw⟩; obtain rfl := hw.symm; clear hw)
    | fail)
  go_ret2
  exact ⟨rfl, rfl⟩
end Go.Proofs.YtldimgchpgoggaaGreat

/- PcacheOpens: walked. -/
namespace Go.Proofs.YtldimgchpgoggaaGreat
open Go.RowKit Go.Tn Go.Tn.Bt Go.Tn.Lp Go.Tn.Dk Go.Tn.Ino Go.Tn.Slo Go.Tn.Ck Go.Tn.Pc
theorem slC_data (x : Slt) (t : ByteArray) : (slC x).setIfInBounds 6 (.string t) = slC { x with data := t } := rfl
theorem built_cz : Tryz.prog.built 69 [] = some #[.pointer none, .slice none 0 0, .map none, .pointer none, .int .u64 0] := by kernel_rfl
set_option maxRecDepth 40000 in
set_option maxHeartbeats 8000000 in
theorem opens_walk (w : World) (size n s : Int) (hn : -9223372036854775808 ≤ n ∧ n < 9223372036854775808) (hs : -9223372036854775808 ≤ s ∧ s < 9223372036854775808) (x : Slt) (hx64 : Slt.w64 x) (hxd : x.data.size ≤ maxLen) :
    Calls Tryz.prog 5 #[.int .i64 size, .int .i64 n, .int .i64 s, .agg (slC x)] w fun e w' => e = .returned (.bool true) ∧ Below w.heap.size w w' := by
  obtain ⟨w1, hw1⟩ : ∃ w1, w.alloc (.cells (slC x) 38) = w1 := ⟨_, rfl⟩
  have hb1 : Below w.heap.size w w1 := by rw [← hw1]; exact (Below.refl _ _).alloc (Nat.le_refl _) _
  have hX : w1.heap[w.heap.size]? = some (.cells (slC x) 38 (0, 0)) := by rw [← hw1]; exact heap_alloc_at
  have hwi := within_any w1 size 1 200
  obtain ⟨k, hk, hk1, hk2⟩ : ∃ k : Nat, within size 1 200 = (k : Int) ∧ 1 ≤ k ∧ k ≤ 200 := by
    refine ⟨(within size 1 200).toNat, ?_, ?_, ?_⟩ <;> unfold within <;> split <;> (try split) <;> omega
  rw [hk] at hwi
  have q6 : w1.cell? ⟨w.heap.size, 6, none⟩ = some (.string x.data) := cell_of hX rfl
  have f6 : w1.frozen? ⟨w.heap.size, 6, none⟩ = false := free_of hX
  have hsh := short_any w1 x.data 70 hxd (by decide)
  rw [show ((70 : Nat) : Int) = 70 from rfl] at hsh
  have HB1 := Lib.hid hb1
  have HX := Lib.hid hX
  have HK := Lib.hid (⟨hk1, hk2⟩ : 1 ≤ k ∧ k ≤ 200)
  have HN := Lib.hid hn
  have HS := Lib.hid hs
  have H64 := Lib.hid hx64
  clear hb1 hX hk hk1 hk2 hn hs hxd hx64
  go_enter Tryz.func5, Tryz.ntmps5
  go_upto_region 1 with fail
  simp only [hw1] at *
  clear hw1
  go_wp2_with (first
    | (go_at_call 7; refine hwi.mono ?_; rintro e wt ⟨rfl, hw⟩; obtain rfl := hw.symm; clear hw)
    | fail)
  refine hsh.mono ?_
  rintro e wt ⟨t, rfl, ht, hw⟩
  obtain rfl := hw.symm
  clear hw hwi hsh
  go_upto_region 3 with fail
  have hm2 := (Mod.refl (fun b => b = w.heap.size) w1).setCell ⟨w.heap.size, 6, none⟩ (.string t) (fun _ => rfl)
  have hX2 : (w1.setCell ⟨w.heap.size, 6, none⟩ (.string t)).heap[w.heap.size]? = some (.cells (slC { x with data := t }) 38 (0, 0)) := by
    rw [heap_setCell_at HX.out, slC_data]
  have hb2 : Below w.heap.size w (w1.setCell ⟨w.heap.size, 6, none⟩ (.string t)) := HB1.out.trans (hm2.below HB1.out.size fun y hy e => by have e : y = w.heap.size := e; omega)
  have HX2 := Lib.hid hX2
  have HB2 := Lib.hid hb2
  clear hm2 hX2 hb2 q6 f6
  generalize w1.setCell ⟨w.heap.size, 6, none⟩ (.string t) = w2 at *
  have h64 : Slt.w64 { x with data := t } := H64.out
  obtain ⟨y, hy⟩ : ∃ y : Slt, { x with data := t } = y := ⟨_, rfl⟩
  have hyd : y.data.size ≤ 70 := by rw [← hy]; exact ht
  rw [hy] at HX2 h64
  have HY64 := Lib.hid h64
  have hnw := newd_any w2 k HK.out.1 (by have := HK.out.2; omega)
  clear HX HB1 H64 h64 hy ht
  go_wp2_with fail
  refine hnw.mono ?_
  rintro e w3 ⟨p, FD, rfl, hD, hb3, -⟩
  have hk1' : (1 : Int) ≤ k := by have := HK.out.1; omega
  have hk2' : (k : Int) ≤ 200 := by have := HK.out.2; omega
  have hn1 := HN.out.1
  have hn2 := HN.out.2
  have hs1 := HS.out.1
  have hs2 := HS.out.2
  have HD := Lib.hid hD
  have HB3 := Lib.hid (hb3.mono (Nat.le_refl _) : Below w2.heap.size w2 w3)
  clear hnw hD hb3
  obtain ⟨r, hr⟩ : ∃ r, decide (rightO (k : Int) n s) = r := ⟨_, rfl⟩
  obtain ⟨en, hen⟩ : ∃ en : Int, (if r = true then (0 : Int) else 2) = en := ⟨_, rfl⟩
  have hopr : Calls Tryz.prog 10 #[.pointer (some ⟨p, 0, none⟩), .int .i64 n, .int .i64 s] w3 fun e w' => (∃ c, e = .returned (.tuple #[.pointer c, .int .i64 en]) ∧ (r = true ↔ c ≠ none)) ∧ Below w3.heap.size w3 w' := by
    rw [← hen]
    by_cases hq : rightO k n s
    · have hr1 : r = true := by rw [← hr]; exact decide_eq_true hq
      rw [if_pos hr1]
      refine (popen_yes HD.out HK.out.2 n s hq).mono ?_
      rintro e w' ⟨⟨c, he⟩, hb⟩
      exact ⟨⟨_, he, fun _ => by simp, fun _ => hr1⟩, hb⟩
    · have hr1 : ¬ r = true := by rw [← hr, decide_eq_false hq]; decide
      rw [if_neg hr1]
      refine (popen_no HD.out HK.out.1 HK.out.2 n s HN.out HS.out hq).mono ?_
      rintro e w' ⟨he, hb⟩
      exact ⟨⟨_, he, fun h => absurd h hr1, fun h => absurd rfl h⟩, hb⟩
  go_wp2_with fail
  refine hopr.mono ?_
  rintro e w4 ⟨⟨co, rfl, hco⟩, hb4⟩
  have HCO := Lib.hid hco
  have HEN := Lib.hid hen
  have HB4 := Lib.hid (HB2.out.trans ((HB3.out.mono HB2.out.size).trans (hb4.mono (Nat.le_trans HB2.out.size HB3.out.size))))
  have hx4 : w4.heap[w.heap.size]? = some (.cells (slC y) 38 (0, 0)) := (hb4.block _ (Nat.lt_of_lt_of_le (lt_of_block HX2.out) HB3.out.size)).trans ((HB3.out.block _ (lt_of_block HX2.out)).trans HX2.out)
  have HX4 := Lib.hid hx4
  clear hopr hb4 hx4 hco hen HB3 HB2 HX2 HD
  go_upto_region 5 with fail
  have HRR := Lib.hid hr
  clear hr
  go_cut [13] (fun rv wx => rv = .bool r ∧ wx = w4)
  case first =>
    have hc : n < 20 ∨ ¬ n < 20 ∧ (k : Int) - 4 < n ∨ ¬ n < 20 ∧ ¬ (k : Int) - 4 < n ∧ s < 1 ∨ ¬ n < 20 ∧ ¬ (k : Int) - 4 < n ∧ ¬ s < 1 ∧ 64 < s ∨ ¬ n < 20 ∧ ¬ (k : Int) - 4 < n ∧ ¬ s < 1 ∧ ¬ 64 < s := by omega
    rcases hc with c1 | ⟨c1, c2⟩ | ⟨c1, c2, c3⟩ | ⟨c1, c2, c3, c4⟩ | ⟨c1, c2, c3, c4⟩
    · have hd : r = false := by rw [← HRR.out]; exact decide_eq_false fun h => by unfold rightO at h; omega
      subst hd
      have c1' : ¬ 20 ≤ n := by omega
      go_wp2
      go_meet
      case rel => exact ⟨rfl, rfl⟩
    · have hd : r = false := by rw [← HRR.out]; exact decide_eq_false fun h => by unfold rightO at h; omega
      subst hd
      have c1' : 20 ≤ n := by omega
      have c2' : ¬ n ≤ (k : Int) - 4 := by omega
      go_wp2
      go_meet
      case rel => exact ⟨rfl, rfl⟩
    · have hd : r = false := by rw [← HRR.out]; exact decide_eq_false fun h => by unfold rightO at h; omega
      subst hd
      have c1' : 20 ≤ n := by omega
      have c2' : n ≤ (k : Int) - 4 := by omega
      have c3' : ¬ 1 ≤ s := by omega
      go_wp2
      go_meet
      case rel => exact ⟨rfl, rfl⟩
    · have hd : r = false := by rw [← HRR.out]; exact decide_eq_false fun h => by unfold rightO at h; omega
      subst hd
      have c1' : 20 ≤ n := by omega
      have c2' : n ≤ (k : Int) - 4 := by omega
      have c3' : 1 ≤ s := by omega
      have c4' : ¬ s ≤ 64 := by omega
      go_wp2
      go_meet
      case rel => exact ⟨rfl, rfl⟩
    · have hd : r = decide (s ≤ (k : Int) - n - 3) := by
        rw [← HRR.out, decide_eq_decide]
        unfold rightO
        omega
      have HRD := Lib.hid hd
      clear hd
      have c1' : 20 ≤ n := by omega
      have c2' : n ≤ (k : Int) - 4 := by omega
      have c3' : 1 ≤ s := by omega
      have c4' : s ≤ 64 := by omega
      have c5' : n ≤ (k : Int) := by omega
      go_wp2
      go_meet
      case rel => exact ⟨by rw [HRD.out], rfl⟩
  case rest =>
    obtain ⟨hrv, hwc⟩ := hcut
    subst hwc
    subst hrv
    go_upto_region 6 with fail
    go_cut [80] (fun s wx => s = .bool false ∧ wx = wc)
    case first =>
      cases r with
      | true =>
        obtain rfl : (0 : Int) = en := HEN.out
        obtain ⟨c, rfl⟩ : ∃ c, co = some c := by
          cases co with
          | none => exact absurd rfl (HCO.out.1 rfl)
          | some c => exact ⟨c, rfl⟩
        go_wp2
        go_meet
        case rel => exact ⟨rfl, rfl⟩
      | false =>
        obtain rfl : (2 : Int) = en := HEN.out
        obtain rfl : co = none := by
          cases co with
          | none => rfl
          | some c => exact absurd (HCO.out.2 (by simp)) (by decide)
        go_wp2
        go_meet
        case rel => exact ⟨rfl, rfl⟩
    case rest =>
      obtain ⟨hs80, hwc2⟩ := hcut
      subst hwc2
      subst hs80
      have hpn := popen_nil wc n s
      clear HCO HRR HEN
      go_wp2_with (first
        | (go_at_call 10; refine hpn.mono ?_; rintro e wt ⟨rfl, hw⟩; obtain rfl := hw.symm; clear hw)
        | fail)
      go_loopw [16] (fun kv wi => ∃ k' : Nat, k' ≤ 2 ∧ kv = .int .i64 k' ∧ Below wc.heap.size wc wi) (fun kv _ => 2 - (intOf kv).toNat)
      case atStart => exact ⟨0, by decide, rfl, Below.refl _ _⟩
      case round =>
        obtain ⟨k', hk', rfl, hb⟩ := hrel
        have HB := Lib.hid hb
        clear hb hpn
        by_cases hk2 : k' < 2
        · have hkk : k' = 0 ∨ k' = 1 := by omega
          have hbz := built_cz
          go_upto_if 98 with fail
          go_cut [17] (fun cv wx => ∃ a, cv = .pointer a ∧ NoC wx a ∧ Below wr.heap.size wr wx)
          case first =>
            rcases hkk with rfl | rfl
            · rw [show ((0 : Nat) : Int) = 0 from rfl]
              go_wp2
              go_meet
              case rel => exact ⟨none, rfl, noC_nil _, Below.refl _ _⟩
            · rw [show ((1 : Nat) : Int) = 1 from rfl]
              have hc : (wr.alloc (.cells #[.pointer none, .slice none 0 0, .map none, .pointer none, .int .u64 0] 69)).cell? ⟨wr.heap.size, 0, none⟩ = some (.pointer none) := cell_of (o := 0) heap_alloc_at rfl
              have hbb : Below wr.heap.size wr (wr.alloc (.cells #[.pointer none, .slice none 0 0, .map none, .pointer none, .int .u64 0] 69)) := (Below.refl _ _).alloc (Nat.le_refl _) _
              go_wp2_with (first
                | ((with_reducible refine wpList_exec rfl (exec_buildA (vals := []) ?_ hbz) ?_); rfl; go_frame)
                | fail)
              go_meet
              case rel => exact ⟨_, rfl, noC_zero _ _ hc, hbb⟩
          case rest =>
            obtain ⟨a, rfl, hnc, hbc⟩ := hcut
            have hxw := (hbc.block _ (Nat.lt_of_lt_of_le (lt_of_block HX4.out) HB.out.size)).trans ((HB.out.block _ (lt_of_block HX4.out)).trans HX4.out)
            have hLb := slC_blk hxw
            have hagb := aggBl y.blk
            have hge := pget_no hnc y.blk
            have HBC := Lib.hid (HB.out.trans (hbc.mono HB.out.size))
            have HXW := Lib.hid hxw
            have HNC := Lib.hid hnc
            clear hbc hxw hnc hbz
            go_wp2_with (first
              | ((with_reducible refine wpList_loadA hagb hLb ?_ ?_); rfl; go_frame)
              | fail)
            refine hge.mono ?_
            rintro e w5 ⟨rfl, hb5⟩
            have hagz := aggSl Slt.no
            have honz := oneSl Slt.no
            obtain ⟨w6, hw6⟩ : ∃ w6, w5.alloc (.cells (slC Slt.no) 42) = w6 := ⟨_, rfl⟩
            have hb56 : Below w5.heap.size w5 w6 := by rw [← hw6]; exact (Below.refl _ _).alloc (Nat.le_refl _) _
            have hz6 : w6.heap[w5.heap.size]? = some (.cells (slC Slt.no) 42 (0, 0)) := by rw [← hw6]; exact heap_alloc_at
            have hx6 := (hb56.block _ (Nat.lt_of_lt_of_le (lt_of_block HXW.out) hb5.size)).trans ((hb5.block _ (lt_of_block HXW.out)).trans HXW.out)
            have hLf0 : Lies w6 w.heap.size 1 #[.int .i64 y.blk.1, .int .i64 y.blk.2.1] := fun j hj => by
              match j, hj with
              | 0, _ => exact cell_of hx6 rfl
              | 1, _ => exact cell_of hx6 rfl
            have hagf := aggFi y.blk.1 y.blk.2.1
            have honf := oneFi y.blk.1 y.blk.2.1
            have HB6 := Lib.hid (hb5.trans (hb56.mono hb5.size))
            have HZ6 := Lib.hid hz6
            have HX6 := Lib.hid hx6
            clear hge hb5 hb56 hz6 hx6 hLb
            go_upto_region 18 with (first
              | ((with_reducible refine wpList_storeA_new hagz ?_ honz ?_ ?_ ?_); rfl; rfl; rfl; go_frame)
              | fail)
            simp only [hw6] at *
            clear hw6
            go_upto_region 19 with (first
              | ((with_reducible refine wpList_loadA hagf hLf0 ?_ ?_); rfl; go_frame)
              | ((with_reducible refine wpList_storeA_new hagf ?_ honf ?_ ?_ ?_); rfl; rfl; rfl; go_frame)
              | fail)
            obtain ⟨w7, hw7⟩ : ∃ w7, w6.alloc (.cells #[.int .i64 y.blk.1, .int .i64 y.blk.2.1] 33) = w7 := ⟨_, rfl⟩
            have hb67 : Below w6.heap.size w6 w7 := by rw [← hw7]; exact (Below.refl _ _).alloc (Nat.le_refl _) _
            have hf7 : w7.heap[w6.heap.size]? = some (.cells #[.int .i64 y.blk.1, .int .i64 y.blk.2.1] 33 (0, 0)) := by rw [← hw7]; exact heap_alloc_at
            simp only [hw7] at *
            clear hw7
            have hz7 := (hb67.block _ (lt_of_block HZ6.out)).trans HZ6.out
            have hx7 := (hb67.block _ (lt_of_block HX6.out)).trans HX6.out
            have hLz := lies_of hz7
            have hLx := lies_of hx7
            have hLb := slC_blk hx7
            have hLf := lies_of hf7
            have hltz := lt_of_block hz7
            have hltx := lt_of_block hx7
            have hltf := lt_of_block hf7
            have hagx := aggXs y
            have hb07 := HB6.out.trans (hb67.mono HB6.out.size)
            have HNC7 := Lib.hid (HNC.out.below hb07)
            have HBF := Lib.hid (HBC.out.trans (hb07.mono HBC.out.size))
            clear HNC HBC hz7 hx7 hf7 hb67 hb07 hLf0
            have HNC := Lib.hid HNC7.out
            clear HNC7
            have hfr := fun w => sfree_any w Slt.no
            rw [decide_eq_true (rfl : Slt.no = Slt.no)] at hfr
            have hS : Below w7.heap.size w7 w7.drew := (Below.refl _ _).drew
            refine wp_region_g (fun w' => Below w7.heap.size w7 w') [(0, 0), (1, 2), (2, 1), (3, 1), (4, 1), (5, 1), (6, 1), (7, 1), (8, 0), (11, 1), (9, 2), (10, 2), (12, 1), (13, 1), (14, 1), (15, 1), (16, 1), (17, 0), (19, 1), (18, 2), (20, 1), (21, 1), (22, 1), (23, 1), (24, 0), (26, 1), (25, 2), (27, 1), (28, 1), (29, 1), (30, 1), (31, 0), (33, 1), (32, 2), (34, 1), (35, 1), (36, 1), (37, 1), (39, 1), (38, 2), (40, 1), (41, 1), (42, 1), (43, 1), (45, 1), (44, 2), (46, 1), (47, 1), (48, 1), (49, 1), (52, 1), (56, 1), (57, 0), (50, 2), (51, 1), (53, 2), (54, 1), (55, 1), (58, 2), (59, 1), (60, 1), (61, 1), (62, 1), (63, 1), (64, 1), (65, 2), (66, 1), (67, 1)] (by kernel_rfl) (by kernel_rfl) (by intro d v c a w h; cases d <;> exact h) ?_
            refine g_read rfl rfl hS (fun w' h => exec_loadA hagz rfl (hLz.below' h hltz)) ?_
            refine g_show' rfl rfl (fun K hK => ?_)
            go_simp
            refine (hfr _).mono ?_
            rintro e w9 ⟨rfl, hb⟩
            have hS2 := hS.trans (hb.mono hS.size)
            refine hK _ _ hS2 ?_
            clear hK K hS hb
            have hS := hS2
            clear hS2
            iterate 2 (refine g_take rfl rfl (fun K hK => ?_); go_simp; refine hK _ ?_; clear hK K)
            iterate 1 (refine g_take rfl rfl (fun K hK => ?_); go_simp; refine hK _ ?_; clear hK K)
            iterate 2 (refine g_take rfl rfl (fun K hK => ?_); go_simp; refine hK _ ?_; clear hK K)
            iterate 1 (refine g_take rfl rfl (fun K hK => ?_); go_simp; refine hK _ ?_; clear hK K)
            refine g_read rfl rfl hS (fun w' h => exec_loadA hagx rfl (hLx.below' h hltx)) ?_
            iterate 1 (refine g_take rfl rfl (fun K hK => ?_); go_simp; refine hK _ ?_; clear hK K)
            refine g_show' rfl rfl (fun K hK => ?_)
            go_simp
            refine (mine_any _ y).mono ?_
            rintro e w9 ⟨rfl, hb⟩
            have hS2 := hS.trans (hb.mono hS.size)
            refine hK _ _ hS2 ?_
            clear hK K hS hb
            have hS := hS2
            clear hS2
            refine g_show' rfl rfl (fun K hK => ?_)
            go_simp
            refine (pput_no (HNC.out.below hS) y).mono ?_
            rintro e w9 ⟨rfl, hb⟩
            have hS2 := hS.trans (hb.mono hS.size)
            refine hK _ _ hS2 ?_
            clear hK K hS hb
            have hS := hS2
            clear hS2
            iterate 1 (refine g_take rfl rfl (fun K hK => ?_); go_simp; refine hK _ ?_; clear hK K)
            iterate 2 (refine g_take rfl rfl (fun K hK => ?_); go_simp; refine hK _ ?_; clear hK K)
            iterate 2 (refine g_take rfl rfl (fun K hK => ?_); go_simp; refine hK _ ?_; clear hK K)
            refine g_read rfl rfl hS (fun w' h => exec_loadA hagb rfl (hLb.below' h hltx)) ?_
            iterate 1 (refine g_take rfl rfl (fun K hK => ?_); go_simp; refine hK _ ?_; clear hK K)
            refine g_show' rfl rfl (fun K hK => ?_)
            go_simp
            refine (pdrop_no (HNC.out.below hS) y.blk).mono ?_
            rintro e w9 ⟨rfl, hb⟩
            have hS2 := hS.trans (hb.mono hS.size)
            refine hK _ _ hS2 ?_
            clear hK K hS hb
            have hS := hS2
            clear hS2
            iterate 1 (refine g_take rfl rfl (fun K hK => ?_); go_simp; refine hK _ ?_; clear hK K)
            iterate 2 (refine g_take rfl rfl (fun K hK => ?_); go_simp; refine hK _ ?_; clear hK K)
            iterate 1 (refine g_take rfl rfl (fun K hK => ?_); go_simp; refine hK _ ?_; clear hK K)
            refine g_read rfl rfl hS (fun w' h => exec_loadA hagf rfl (hLf.below' h hltf)) ?_
            iterate 1 (refine g_take rfl rfl (fun K hK => ?_); go_simp; refine hK _ ?_; clear hK K)
            refine g_show' rfl rfl (fun K hK => ?_)
            go_simp
            refine (pdropFile_no (HNC.out.below hS) _ _).mono ?_
            rintro e w9 ⟨rfl, hb⟩
            have hS2 := hS.trans (hb.mono hS.size)
            refine hK _ _ hS2 ?_
            clear hK K hS hb
            have hS := hS2
            clear hS2
            iterate 1 (refine g_take rfl rfl (fun K hK => ?_); go_simp; refine hK _ ?_; clear hK K)
            iterate 2 (refine g_take rfl rfl (fun K hK => ?_); go_simp; refine hK _ ?_; clear hK K)
            iterate 1 (refine g_take rfl rfl (fun K hK => ?_); go_simp; refine hK _ ?_; clear hK K)
            refine g_read rfl rfl hS (fun w' h => exec_loadA hagf rfl (hLf.below' h hltf)) ?_
            iterate 1 (refine g_take rfl rfl (fun K hK => ?_); go_simp; refine hK _ ?_; clear hK K)
            refine g_show' rfl rfl (fun K hK => ?_)
            go_simp
            refine (pretag_no (HNC.out.below hS) _ _ 1).mono ?_
            rintro e w9 ⟨rfl, hb⟩
            have hS2 := hS.trans (hb.mono hS.size)
            refine hK _ _ hS2 ?_
            clear hK K hS hb
            have hS := hS2
            clear hS2
            iterate 1 (refine g_take rfl rfl (fun K hK => ?_); go_simp; refine hK _ ?_; clear hK K)
            iterate 2 (refine g_take rfl rfl (fun K hK => ?_); go_simp; refine hK _ ?_; clear hK K)
            iterate 2 (refine g_take rfl rfl (fun K hK => ?_); go_simp; refine hK _ ?_; clear hK K)
            refine g_show' rfl rfl (fun K hK => ?_)
            go_simp
            refine (psetNumber_no (HNC.out.below hS) 1).mono ?_
            rintro e w9 ⟨rfl, hb⟩
            have hS2 := hS.trans (hb.mono hS.size)
            refine hK _ _ hS2 ?_
            clear hK K hS hb
            have hS := hS2
            clear hS2
            iterate 1 (refine g_take rfl rfl (fun K hK => ?_); go_simp; refine hK _ ?_; clear hK K)
            iterate 2 (refine g_take rfl rfl (fun K hK => ?_); go_simp; refine hK _ ?_; clear hK K)
            iterate 2 (refine g_take rfl rfl (fun K hK => ?_); go_simp; refine hK _ ?_; clear hK K)
            refine g_show' rfl rfl (fun K hK => ?_)
            go_simp
            refine (psync_no (HNC.out.below hS)).mono ?_
            rintro e w9 ⟨rfl, hb⟩
            have hS2 := hS.trans (hb.mono hS.size)
            refine hK _ _ hS2 ?_
            clear hK K hS hb
            have hS := hS2
            clear hS2
            iterate 1 (refine g_take rfl rfl (fun K hK => ?_); go_simp; refine hK _ ?_; clear hK K)
            iterate 2 (refine g_take rfl rfl (fun K hK => ?_); go_simp; refine hK _ ?_; clear hK K)
            iterate 3 (refine g_take rfl rfl (fun K hK => ?_); go_simp; refine hK _ ?_; clear hK K)
            refine g_read rfl rfl hS (fun w' h => exec_loadA hagf rfl (hLf.below' h hltf)) ?_
            refine g_show' rfl rfl (fun K hK => ?_)
            go_simp
            refine (pdirty_no (HNC.out.below hS)).mono ?_
            rintro e w9 ⟨rfl, hb⟩
            have hS2 := hS.trans (hb.mono hS.size)
            refine hK _ _ hS2 ?_
            clear hK K hS hb
            have hS := hS2
            clear hS2
            iterate 1 (refine g_take rfl rfl (fun K hK => ?_); go_simp; refine hK _ ?_; clear hK K)
            refine g_show' rfl rfl (fun K hK => ?_)
            go_simp
            refine (pall_no (HNC.out.below hS)).mono ?_
            rintro e w9 ⟨rfl, hb⟩
            have hS2 := hS.trans (hb.mono hS.size)
            refine hK _ _ hS2 ?_
            clear hK K hS hb
            have hS := hS2
            clear hS2
            iterate 2 (refine g_take rfl rfl (fun K hK => ?_); go_simp; refine hK _ ?_; clear hK K)
            refine g_show' rfl rfl (fun K hK => ?_)
            go_simp
            refine (pof_no (HNC.out.below hS) _ _).mono ?_
            rintro e w9 ⟨rfl, hb⟩
            have hS2 := hS.trans (hb.mono hS.size)
            refine hK _ _ hS2 ?_
            clear hK K hS hb
            have hS := hS2
            clear hS2
            iterate 3 (refine g_take rfl rfl (fun K hK => ?_); go_simp; refine hK _ ?_; clear hK K)
            iterate 2 (refine g_take rfl rfl (fun K hK => ?_); go_simp; refine hK _ ?_; clear hK K)
            iterate 1 (refine g_take rfl rfl (fun K hK => ?_); go_simp; refine hK _ ?_; clear hK K)
            refine g_show' rfl rfl (fun K hK => ?_)
            go_simp
            refine (pnumber_no (HNC.out.below hS)).mono ?_
            rintro e w9 ⟨rfl, hb⟩
            have hS2 := hS.trans (hb.mono hS.size)
            refine hK _ _ hS2 ?_
            clear hK K hS hb
            have hS := hS2
            clear hS2
            iterate 1 (refine g_take rfl rfl (fun K hK => ?_); go_simp; refine hK _ ?_; clear hK K)
            iterate 1 (refine g_take rfl rfl (fun K hK => ?_); go_simp; refine hK _ ?_; clear hK K)
            refine g_nil ?_
            have HFIN := Lib.hid (HBF.out.trans (hS.mono HBF.out.size))
            clear hS
            go_wp2
            go_roundw
            case rel => exact ⟨k' + 1, by omega, by go_num, HFIN.out⟩
            case measure => simp [intOf]; omega
        · obtain rfl : k' = 2 := by omega
          clear hk' hk2
          rw [show ((2 : Nat) : Int) = 2 from rfl]
          go_wp2_with (first
            | (go_at_call 16; refine (lives_any _).mono ?_; rintro e w8 ⟨rfl, hb8⟩; have HB8 := Lib.hid (HB4.out.trans ((HB.out.trans (hb8.mono HB.out.size)).mono HB4.out.size)); clear hb8)
            | fail)
          go_ret
          exact ⟨rfl, HB8.out⟩
end Go.Proofs.YtldimgchpgoggaaGreat

/- The calls that a law of the cache's is handed; few of them: walked. -/
namespace Go.Proofs.YtldimgchpgoggaaGreat
open Go.ChangeShapes Go.WideShapes Go.ChangeAt Go.RowKit Go.Tn Go.Joins Go.Tn.Bt Go.Tn.Lp Go.Tn.Dk Go.Tn.Ino Go.Tn.Slo Go.Tn.Ck Go.Tn.Pc
/-- A call: what, a number, a slot, a version, what is kept. -/
structure DoX where
  kind : Int
  num : Int
  x : Slt
  v : Nat
  keep : List Int
def enDoX (y : DoX × Sv) : List Value := [.int .i64 y.1.kind, .int .i64 y.1.num, .bool y.1.x.used, .int .i64 y.1.x.blk.1, .int .i64 y.1.x.blk.2.1, .int .i64 y.1.x.blk.2.2, .int .u64 (y.1.x.ver : Nat), .bool y.1.x.dirty, .string y.1.x.data, .int .u64 (y.1.v : Nat), sv y.2]
structure DoX.fine (w : World) (y : DoX × Sv) : Prop where
  keep : LSl enI 1 w (sv y.2) y.1.keep
  kind : -9223372036854775808 ≤ y.1.kind ∧ y.1.kind < 9223372036854775808
  num : -9223372036854775808 ≤ y.1.num ∧ y.1.num < 9223372036854775808
  x : Slt.w64 y.1.x
  data : y.1.x.data.size ≤ maxLen
  v : y.1.v < 18446744073709551616
theorem DoX.fine.below {w w' : World} {y : DoX × Sv} (h : DoX.fine w y) (hb : Below w.heap.size w w') : DoX.fine w' y := ⟨h.keep.below hb, h.kind, h.num, h.x, h.data, h.v⟩
def DosX (w : World) (v : Value) (ds : List DoX) : Prop := ∃ xs : List (DoX × Sv), xs.map (·.1) = ds ∧ LSl enDoX 11 w v xs ∧ ∀ x ∈ xs, DoX.fine w x
theorem DosX.below {w w' : World} {v : Value} {ds : List DoX} (h : DosX w v ds) (hb : Below w.heap.size w w') : DosX w' v ds := by
  obtain ⟨xs, h1, h2, h3⟩ := h
  exact ⟨xs, h1, h2.below hb, fun x hx => (h3 x hx).below hb⟩
section
variable {H : Type} {enc : TypeId × Value → H} {w : World} {base : Nat} {spare : Nat → Bool} {held : Bool}
theorem CellOk.slice {t e : TypeId} (ht : Tryz.prog.underlying t = some (.slice e)) {c : Value} (h : CellOk enc Tryz.prog w base spare held t c) : ∃ a n cap, c = .slice a n cap ∧ ∃ x ps, DataW.Trod enc Tryz.prog w base spare held t (.slice a n cap) x ps := by
  obtain ⟨m, ⟨x, ps⟩, h⟩ := h
  have hsh : ∃ a n cap, c = .slice a n cap := by
    rcases Go.Deep.open_slice ht h with ⟨hcs, _⟩ | ⟨⟨b, off, spot⟩, len, cap, m, n, D, Pl, hcs, _⟩
    · exact ⟨_, _, _, by simpa using hcs⟩
    · exact ⟨_, _, _, by simpa using hcs⟩
  obtain ⟨a, n, cap, rfl⟩ := hsh
  exact ⟨a, n, cap, rfl, x, ps, m, h⟩
theorem w64_of {u : Bool} {i g a : Int} {v : Int} {dy : Bool} {s : ByteArray} (hi : (Lit.int .i64 i).wf = true) (hg : (Lit.int .i64 g).wf = true) (ha : (Lit.int .i64 a).wf = true) (hv : (Lit.int .u64 v).wf = true) :
    Slt.w64 ⟨u, (i, g, a), v.toNat, dy, s⟩ := by
  have b1 := wf_i64_bounds hi
  have b2 := wf_i64_bounds hg
  have b3 := wf_i64_bounds ha
  have b4 := wf_u64_bounds hv
  unfold Slt.w64
  simp only
  omega
end
end Go.Proofs.YtldimgchpgoggaaGreat
