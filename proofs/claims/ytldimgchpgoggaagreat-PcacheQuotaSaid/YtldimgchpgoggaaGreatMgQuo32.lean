/- Blocks that are kept: what is dirty is not given up: plain. What a call makes of a cache. -/
import Derived.Test.YtldimgchpgoggaaGreatMgQuo31
import Derived.WalkKit
import Derived.ProofKit
import Derived.OpenShut
import Derived.ShutString
import Derived.ChangeOld
import Derived.Below
import Derived.Lib.SmallJoins
/- Blocks that are kept: lives: walked. -/
namespace Go.Proofs.YtldimgchpgoggaaGreat
open Go.RowKit Go.Tn Go.Tn.Bt Go.Tn.Lp Go.Tn.Dk Go.Tn.Ino Go.Tn.Slo Go.Tn.Ck Go.Tn.Pc
/-- A new disk, a new cache. -/
theorem popen_new {w0 w : World} {FD : Nat → Prop} {p k n : Nat} (hd : DAt w FD p (newD k)) (hFD : ∀ b, FD b → w0.heap.size ≤ b) (hw : Below w0.heap.size w0 w) (h1 : 1 ≤ n) (h2 : n ≤ 12) (h3 : n + 23 ≤ k) (h5 : k ≤ 4096) :
    Calls Tryz.prog 10 #[.pointer (some ⟨p, 0, none⟩), .int .i64 20, .int .i64 n] w fun e w' => ∃ c G, e = .returned (.tuple #[.pointer (some ⟨c, 0, none⟩), .int .i64 0]) ∧ PQ w0 0 c p (PC.new n 0) G w' ∧ Below w.heap.size w w' ∧ ∀ b, G b → FD b ∨ w.heap.size ≤ b := by
  have hL : (newD k).L.length = k := by simp [newD]
  have hlen : (PC.new n 0).L.length = n := by simp [PC.new]
  have := popen_quiet hd hFD hw (pinv_new h1 h2 h3 (by omega) h5) (open_new (by decide) (by omega)) (by rw [newest_zero _ _ (by omega)]; decide) (by decide) (by rw [hlen]; exact h1) (by rw [hlen, hL]; exact h3)
  rw [hlen] at this
  have e : PC.opened (PC.new n 0).L (PC.new n 0).num n = PC.new n 0 := opened_new n
  rw [e] at this
  exact this
def liveB : Blk := (2, 1, 1)
def liveX : Slt := ⟨true, liveB, 0, false, { data := #[120] }⟩
def liveP1 : PC := (PC.new 2 0).set 0 liveX
def liveP2 : PC := { liveP1 with num := 5 }
theorem liveX_is : liveX.is ∧ liveX ≠ Slt.no := by decide
theorem live_put : (PC.new 2 0).put liveX = (liveP1, 0) := by
  have h : (PC.new 2 0).place liveX.blk = (PC.new 2 0, 0, 0) := rfl
  unfold PC.put
  rw [if_neg (fun e => e liveX_is), h, if_neg (fun e => e rfl)]
  rfl
def liveP3 : PC := (liveP2.get liveB).1
theorem live_get : liveP2.get liveB = (liveP3, liveX, true) := rfl
theorem live_L : liveP3.L = [liveX, Slt.no] := rfl
theorem live_all {xs : List Slt} (h : SBy (liveP3.has qAll) xs) : xs.length = 1 := by
  have h2 : SBy (liveP3.has qAll) [liveX] := by
    refine ⟨fun x => ?_, by simp⟩
    unfold PC.has
    rw [live_L]
    simp only [List.mem_cons, List.not_mem_nil, or_false]
    constructor
    · rintro rfl
      exact ⟨.inl rfl, rfl, rfl⟩
    · rintro ⟨rfl | rfl, h1, -⟩
      · rfl
      · cases h1
  rw [h.uniq h2]
  rfl
theorem built_live : Tryz.prog.built 42 [(0, .bool true), (1, .agg #[.int .i64 2, .int .i64 1, .int .i64 1]), (4, .string { data := #[120] })] = some (slC liveX) := by kernel_rfl
set_option maxRecDepth 20000 in
set_option maxHeartbeats 4000000 in
theorem lives_any (w : World) : Calls Tryz.prog 16 #[] w fun e w' => e = .returned (.bool true) ∧ Below w.heap.size w w' := by
  have hnw := newd_any w 30 (by decide) (by decide)
  rw [show ((30 : Nat) : Int) = 30 from rfl] at hnw
  have hbl := built_live
  have hbb : Tryz.prog.built 35 [(0, .agg #[.int .i64 2, .int .i64 1]), (1, .int .i64 1)] = some #[.int .i64 2, .int .i64 1, .int .i64 1] := by kernel_rfl
  have hbf : Tryz.prog.built 33 [(0, .int .i64 2), (1, .int .i64 1)] = some #[.int .i64 2, .int .i64 1] := by kernel_rfl
  go_enter Tryz.func16, Tryz.ntmps16
  go_wp2_with fail
  refine hnw.mono ?_
  rintro e w1 ⟨p, FD, rfl, hD, hb1, hF⟩
  have hop := popen_new (w0 := w) (n := 2) hD (fun b hb => hF b hb) hb1 (by decide) (by decide) (by decide) (by decide)
  rw [show ((2 : Nat) : Int) = 2 from rfl] at hop
  clear hnw hD hb1 hF
  go_wp2_with fail
  refine hop.mono ?_
  rintro e w2 ⟨c, G, rfl, hQ2, -, -⟩
  obtain ⟨w3, hw3⟩ : ∃ w3, w2.alloc (.cells (blC liveB) 35) = w3 := ⟨_, rfl⟩
  have hb3 : Below w2.heap.size w2 w3 := by rw [← hw3]; exact (Below.refl _ _).alloc (Nat.le_refl _) _
  have hB3 : w3.heap[w2.heap.size]? = some (.cells (blC liveB) 35 (0, 0)) := by rw [← hw3]; exact heap_alloc_at
  have hQ3 := hQ2.below hb3
  have hagb := aggBl liveB
  have honb : (blC liveB).all (·.oneCell') = true := by simp [Value.oneCell']
  have hLb := lies_of hB3
  have hnG : ¬ G w2.heap.size := fun h => absurd (hQ2.hi _ h) (Nat.lt_irrefl _)
  have HB3 := Lib.hid hB3
  clear hop hQ2 hb3
  go_upto_region 4 with (first
    | ((with_reducible refine wpList_exec rfl (exec_buildA (vals := [(0, .int .i64 2), (1, .int .i64 1)]) ?_ hbf) ?_); rfl; go_frame)
    | ((with_reducible refine wpList_exec rfl (exec_buildA (vals := [(0, .agg #[.int .i64 2, .int .i64 1]), (1, .int .i64 1)]) ?_ hbb) ?_); rfl; go_frame)
    | ((with_reducible refine wpList_storeA_new (cs := blC liveB) hagb ?_ honb ?_ ?_ ?_); rfl; rfl; rfl; go_frame)
    | fail)
  simp only [hw3] at *
  clear hw3
  have hpu := hQ3.putQ (by decide) liveX (is_w64 liveX_is.1).1 (is_w64 liveX_is.1).2
  rw [live_put] at hpu
  have hpu : Calls Tryz.prog 29 #[.pointer (some ⟨c, 0, none⟩), .agg (slC liveX)] w3 fun e w' => e = .returned (.int .i64 0) ∧ PQT w 2 c p liveP1 G w3 w' := hpu
  clear hQ3
  go_wp2_with (first
    | ((with_reducible refine wpList_execW (exec_loadA hagb ?_ hLb) ?_ ?_); rfl; (first | rfl | (go_simp; done)); go_frame)
    | ((with_reducible refine wpList_execW (exec_buildA (vals := [(0, .bool true), (1, .agg #[.int .i64 2, .int .i64 1, .int .i64 1]), (4, .string { data := #[120] })]) ?_ hbl) ?_ ?_); rfl; (first | rfl | (go_simp; done)); go_frame)
    | fail)
  refine hpu.mono ?_
  rintro e w4 ⟨rfl, hT4⟩
  have hB4 := hT4.box HB3.out hnG
  obtain ⟨G4, hQ4, hn4, -, -⟩ := hT4.st
  have hnG4 := hn4 _ (lt_of_block HB3.out) hnG
  have hsn := hQ4.setNumberQ (by decide) 5 (by decide)
  rw [show ((5 : Nat) : Int) = 5 from rfl] at hsn
  have HB4 := Lib.hid hB4
  clear hpu hQ4 hLb hT4 hn4 hnG hB4 HB3
  go_wp2_with fail
  refine hsn.mono ?_
  rintro e w5 ⟨rfl, hT5⟩
  have hB5 := hT5.box HB4.out hnG4
  obtain ⟨G5, hQ5, -, -, -⟩ := hT5.st
  have hQ5 : PQ w 4 c p liveP2 G5 w5 := hQ5
  have hge := hQ5.getQ liveB
  rw [live_get] at hge
  have hge : Calls Tryz.prog 11 #[.pointer (some ⟨c, 0, none⟩), .agg (blC liveB)] w5 fun e w' => e = .returned (.tuple #[.agg (slC liveX), .bool true]) ∧ PQT w 4 c p liveP3 G5 w5 w' := hge
  have hLb := lies_of hB5
  clear hsn hT5 hB5 hQ5 hnG4 HB4
  go_wp2_with (first
    | ((with_reducible refine wpList_loadA hagb hLb ?_ ?_); rfl; go_frame)
    | fail)
  refine hge.mono ?_
  rintro e w6 ⟨rfl, hT6⟩
  obtain ⟨G6, hQ6, -, -, -⟩ := hT6.st
  have hagx := aggSl liveX
  have honx := oneSl liveX
  have hx7 : (w6.alloc (.cells (slC liveX) 42)).heap[w6.heap.size]? = some (.cells (slC liveX) 42 (0, 0)) := heap_alloc_at
  have hQ7 := hQ6.below (w' := w6.alloc (.cells (slC liveX) 42)) ((Below.refl _ _).alloc (Nat.le_refl _) _)
  have q6 : (w6.alloc (.cells (slC liveX) 42)).cell? ⟨w6.heap.size, 6, none⟩ = some (.string { data := #[120] }) := cell_of hx7 rfl
  have hnu := hQ7.number
  have hnu : Calls Tryz.prog 35 #[.pointer (some ⟨c, 0, none⟩)] (w6.alloc (.cells (slC liveX) 42)) fun e w' => e = .returned (.int .u64 5) ∧ w' = w6.alloc (.cells (slC liveX) 42) := hnu
  have hal := hQ7.all
  have HW7 := Lib.hid hQ7.w
  clear hge hT6 hQ6 hx7 hQ7 hLb
  go_upto_region 7 with (first
    | ((with_reducible refine wpList_storeA_new hagx ?_ honx ?_ ?_ ?_); rfl; rfl; rfl; go_frame)
    | fail)
  generalize hw7 : w6.alloc (.cells (slC liveX) 42) = w7 at *
  clear hw7
  go_wp2_with (first
    | (go_at_call 35; refine hnu.mono ?_; rintro e wt ⟨rfl, hw⟩; obtain rfl := hw.symm; clear hw)
    | fail)
  refine hal.mono ?_
  rintro e w8 ⟨v, is, rfl, h1, -, h3, h4⟩
  have hx1 := live_all h1.slots
  obtain ⟨ao, cap, hv, -⟩ := h3.sl elSl.len
  rw [hx1] at hv
  subst hv
  have HB8 := Lib.hid (HW7.out.trans (h4.mono HW7.out.size))
  clear hal hnu h1 h3 h4 hx1
  go_wp2
  go_ret
  exact ⟨rfl, HB8.out⟩
end Go.Proofs.YtldimgchpgoggaaGreat

/- Blocks that are kept: what answers that no call made: walked (printed by genpcv.py). -/
namespace Go.Proofs.YtldimgchpgoggaaGreat
open Go.RowKit Go.Tn Go.Tn.Bt Go.Tn.Lp Go.Tn.Dk Go.Tn.Ino Go.Tn.Slo Go.Tn.Ck Go.Tn.Pc
/-- No cache. -/
def NoC (w : World) (a : Option Addr) : Prop := ∀ w', Below w.heap.size w w' → Calls Tryz.prog 45 #[.pointer a] w' fun e w'' => e = .returned (.bool false) ∧ w'' = w'
theorem NoC.below {w w' : World} {a : Option Addr} (h : NoC w a) (hb : Below w.heap.size w w') : NoC w' a := fun w2 h2 => h w2 (hb.trans (h2.mono hb.size))
section
variable {w : World} {a : Option Addr}
end
/-- The document's slot as the program's. -/
theorem aggXs (x : Slt) : AggT Tryz.prog 38 (slC x).size := ⟨⟨_, Tryz.underlying38, rfl⟩, by kernel_rfl⟩
theorem built_slt (u : Bool) (i g a v : Int) (dy : Bool) (s : ByteArray) : Tryz.prog.built 42 [(0, .bool u), (1, .agg #[.int .i64 i, .int .i64 g, .int .i64 a]), (2, .int .u64 v), (3, .bool dy), (4, .string s)] = some #[.bool u, .int .i64 i, .int .i64 g, .int .i64 a, .int .u64 v, .bool dy, .string s] := by kernel_rfl
theorem slC_blk {w : World} {b : Nat} {x : Slt} {T : TypeId} (h : w.heap[b]? = some (.cells (slC x) T (0, 0))) : Lies w b 1 (blC x.blk) := fun j hj => by
  match j, hj with
  | 0, _ => exact cell_of h rfl
  | 1, _ => exact cell_of h rfl
  | 2, _ => exact cell_of h rfl
set_option maxRecDepth 20000 in
set_option maxHeartbeats 2000000 in
theorem mine_any (w : World) (x : Slt) : Calls Tryz.prog 19 #[.agg (slC x)] w fun e w' => e = .returned (.agg (slC x)) ∧ Below w.heap.size w w' := by
  obtain ⟨w1, hw1⟩ : ∃ w1, (w.alloc (.cells (slC x) 38)).alloc (.cells #[.bool false, .int .i64 0, .int .i64 0, .int .i64 0, .int .u64 0, .bool false, .string { data := #[] }] 42) = w1 := ⟨_, rfl⟩
  have hb0 : Below w.heap.size w (w.alloc (.cells (slC x) 38)) := (Below.refl _ _).alloc (Nat.le_refl _) _
  have hb1 : Below w.heap.size w w1 := by rw [← hw1]; exact hb0.alloc (by simp) _
  have hX : w1.heap[w.heap.size]? = some (.cells (slC x) 38 (0, 0)) := by rw [← hw1]; exact heap_alloc_of heap_alloc_at
  have hZ : w1.heap[w.heap.size + 1]? = some (.cells (slC Slt.no) 42 (0, 0)) := by
    rw [← hw1]
    have := heap_alloc_at (w := w.alloc (.cells (slC x) 38)) (o := .cells #[.bool false, .int .i64 0, .int .i64 0, .int .i64 0, .int .u64 0, .bool false, .string { data := #[] }] 42)
    rw [World.size_alloc] at this
    exact this
  have hLb := slC_blk hX
  have hagb := aggBl x.blk
  have hagx := aggSl x
  have honx := oneSl x
  have q0 : w1.cell? ⟨w.heap.size, 0, none⟩ = some (.bool x.used) := cell_of hX rfl
  have q4 : w1.cell? ⟨w.heap.size, 4, none⟩ = some (.int .u64 (x.ver : Nat)) := cell_of hX rfl
  have q5 : w1.cell? ⟨w.heap.size, 5, none⟩ = some (.bool x.dirty) := cell_of hX rfl
  have q6 : w1.cell? ⟨w.heap.size, 6, none⟩ = some (.string x.data) := cell_of hX rfl
  have hbn := built_slt x.used x.blk.1 x.blk.2.1 x.blk.2.2 (x.ver : Nat) x.dirty x.data
  have HB1 := Lib.hid hb1
  clear hb0 hb1 hX
  go_enter Tryz.func19, Tryz.ntmps19
  go_upto_region 1 with fail
  simp only [hw1] at *
  clear hw1
  go_wp2_with (first
    | ((with_reducible refine wpList_loadA hagb hLb ?_ ?_); rfl; go_frame)
    | ((with_reducible refine wpList_exec rfl (exec_buildA (vals := [(0, .bool x.used), (1, .agg (blC x.blk)), (2, .int .u64 (x.ver : Nat)), (3, .bool x.dirty), (4, .string x.data)]) ?_ hbn) ?_); rfl; go_frame)
    | ((with_reducible refine wpList_storeB (cs := slC x) hagx ?_ ?_ hZ rfl honx ?_); rfl; rfl; (intro w9 hh9 hm9; have HH9 := Lib.hid hh9; have HM9 := Lib.hid hm9; clear hh9 hm9); go_frame)
    | fail)
  refine bodyPost_ret (results_cellA rfl _ rfl hagx (lies_of HH9.out)) rfl ?_
  exact ⟨rfl, HB1.out.trans (HM9.out.below HB1.out.size fun y hy e => by have e : y = w.heap.size + 1 := e; omega)⟩
/-- A text cut short. -/
theorem short_any (w : World) (s : ByteArray) (n : Nat) (hs : s.size ≤ maxLen) (hn : n ≤ 1000) : Calls Tryz.prog 27 #[.string s, .int .i64 n] w fun e w' => ∃ t, e = .returned (.string t) ∧ t.size ≤ n ∧ w' = w := by
  unfold maxLen at hs
  by_cases h : n < s.size
  · have h' : (n : Int) < (s.size : Int) := by omega
    go_enter Tryz.func27, Tryz.ntmps27
    go_wp2
    go_ret
    refine ⟨_, rfl, ?_, rfl⟩
    simp
    omega
  · have h' : (s.size : Int) ≤ (n : Int) := by omega
    go_enter Tryz.func27, Tryz.ntmps27
    go_wp2
    go_ret
    exact ⟨_, rfl, by omega, rfl⟩
end Go.Proofs.YtldimgchpgoggaaGreat

/- Blocks that are kept: Open of a new disk, whatever the numbers. -/
namespace Go.Proofs.YtldimgchpgoggaaGreat
open Go.RowKit Go.Tn Go.Tn.Bt Go.Tn.Lp Go.Tn.Dk Go.Tn.Ino Go.Tn.Slo Go.Tn.Ck Go.Tn.Pc
def within (x lo hi : Int) : Int := if x < lo then lo else if hi < x then hi else x
theorem within_any (w : World) (x a b : Int) : Calls Tryz.prog 7 #[.int .i64 x, .int .i64 a, .int .i64 b] w fun e w' => e = .returned (.int .i64 (within x a b)) ∧ w' = w := by
  unfold within
  by_cases h1 : x < a
  · have hd1 : decide (x < a) = true := by simp [h1]
    rw [if_pos h1]
    go_enter Tryz.func7, Tryz.ntmps7
    go_wp2
    go_ret
    exact ⟨rfl, rfl⟩
  · have hd1 : decide (x < a) = false := by simp; omega
    rw [if_neg h1]
    by_cases h2 : b < x
    · have hd2 : decide (b < x) = true := by simp [h2]
      rw [if_pos h2]
      go_enter Tryz.func7, Tryz.ntmps7
      go_wp2
      go_ret
      exact ⟨rfl, rfl⟩
    · have hd2 : decide (b < x) = false := by simp; omega
      rw [if_neg h2]
      go_enter Tryz.func7, Tryz.ntmps7
      go_wp2
      go_ret
      exact ⟨rfl, rfl⟩
section
variable {w : World} {FD : Nat → Prop} {p k : Nat}
/-- With which disks, rings and slots there is a cache. -/
def rightO (k n s : Int) : Prop := 20 ≤ n ∧ n ≤ k - 4 ∧ 1 ≤ s ∧ s ≤ 64 ∧ s ≤ k - n - 3
instance (k n s : Int) : Decidable (rightO k n s) := by unfold rightO; infer_instance
end
end Go.Proofs.YtldimgchpgoggaaGreat

/- The calls that a law of the cache's is handed; few of them: walked. -/
namespace Go.Proofs.YtldimgchpgoggaaGreat
open Go.ChangeShapes Go.WideShapes Go.ChangeAt Go.RowKit Go.Tn Go.Joins Go.Tn.Bt Go.Tn.Lp Go.Tn.Dk Go.Tn.Ino Go.Tn.Slo Go.Tn.Ck Go.Tn.Pc
/-- A call: what, a number, a slot, a version, what is kept. -/
structure DoX where
  kind : Int
  num : Int
  x : Slt
  v : Nat
  keep : List Int
def enDoX (y : DoX × Sv) : List Value := [.int .i64 y.1.kind, .int .i64 y.1.num, .bool y.1.x.used, .int .i64 y.1.x.blk.1, .int .i64 y.1.x.blk.2.1, .int .i64 y.1.x.blk.2.2, .int .u64 (y.1.x.ver : Nat), .bool y.1.x.dirty, .string y.1.x.data, .int .u64 (y.1.v : Nat), sv y.2]
def doC (y : DoX × Sv) : Array Value := (enDoX y).toArray
structure DoX.fine (w : World) (y : DoX × Sv) : Prop where
  keep : LSl enI 1 w (sv y.2) y.1.keep
  kind : -9223372036854775808 ≤ y.1.kind ∧ y.1.kind < 9223372036854775808
  num : -9223372036854775808 ≤ y.1.num ∧ y.1.num < 9223372036854775808
  x : Slt.w64 y.1.x
  data : y.1.x.data.size ≤ maxLen
  v : y.1.v < 18446744073709551616
theorem DoX.fine.below {w w' : World} {y : DoX × Sv} (h : DoX.fine w y) (hb : Below w.heap.size w w') : DoX.fine w' y := ⟨h.keep.below hb, h.kind, h.num, h.x, h.data, h.v⟩
theorem elDo : ElT Tryz.prog 22 41 11 enDoX := ⟨Tryz.underlying22, by kernel_rfl, by decide, fun _ => rfl, fun x u hu => by
  unfold enDoX sv at hu
  simp only [List.mem_cons, List.not_mem_nil, or_false] at hu
  rcases hu with rfl | rfl | rfl | rfl | rfl | rfl | rfl | rfl | rfl | rfl | rfl <;> rfl⟩
theorem aggDo (y : DoX × Sv) : AggT Tryz.prog 41 (doC y).size := ⟨⟨_, Tryz.underlying41, rfl⟩, by kernel_rfl⟩
theorem oneDo (y : DoX × Sv) : (doC y).all (·.oneCell') = true := by
  unfold doC enDoX sv
  simp [Value.oneCell']
def DosX (w : World) (v : Value) (ds : List DoX) : Prop := ∃ xs : List (DoX × Sv), xs.map (·.1) = ds ∧ LSl enDoX 11 w v xs ∧ ∀ x ∈ xs, DoX.fine w x
theorem DosX.below {w w' : World} {v : Value} {ds : List DoX} (h : DosX w v ds) (hb : Below w.heap.size w w') : DosX w' v ds := by
  obtain ⟨xs, h1, h2, h3⟩ := h
  exact ⟨xs, h1, h2.below hb, fun x hx => (h3 x hx).below hb⟩
theorem flatDo : flat Tryz.prog 6 41 = some [3, 3, 4, 3, 3, 3, 36, 4, 9, 36, 39] := by kernel_rfl
theorem cellsDo : Tryz.prog.cellsOf 41 = [3, 3, 4, 3, 3, 3, 36, 4, 9, 36, 39].length := by kernel_rfl
theorem flatI : flat Tryz.prog 1 3 = some [3] := by kernel_rfl
theorem cellsI : Tryz.prog.cellsOf 3 = [3].length := by kernel_rfl
section
variable {H : Type} {enc : TypeId × Value → H} {w : World} {base : Nat} {spare : Nat → Bool} {held : Bool}
theorem ints_of {ao : Option Addr} {n cap : Nat} {x : DataW H} {ps : List MemPlace} (h : DataW.Trod enc Tryz.prog w base spare held 39 (.slice ao n cap) x ps) : ∃ bs : List Int, LSl enI 1 w (.slice ao n cap) bs := by
  rcases open_flat Tryz.underlying39 flatI cellsI (by decide) h ⟨_, _, _, rfl⟩ with hv | ⟨b, off, spot, len, cap', hv, hl, hm, hin, hc⟩
  · cases hv
    exact ⟨[], LSl.nil w⟩
  · cases hv
    have hex : ∀ i : Nat, ∃ z : Int, i < n → w.cell? ⟨b, off + i, none⟩ = some (.int .i64 z) := fun i => by
      by_cases hi : i < n
      · obtain ⟨c, h1, h2⟩ := hc i hi 0 3 rfl
        obtain ⟨z, rfl, _⟩ := h2.int Tryz.underlying3
        exact ⟨z, fun _ => by simpa using h1⟩
      · exact ⟨0, fun h => absurd h hi⟩
    have hlen : ((List.range n).map fun i => Classical.choose (hex i)).length = n := by simp
    refine ⟨(List.range n).map fun i => Classical.choose (hex i), _, cap, by rw [hlen], by rw [hlen]; exact hl, hm, fun h0 => ?_⟩
    rw [hlen] at h0
    refine ⟨b, off, by rw [(hin h0).1], (hin h0).2, fun i y hi => ?_⟩
    have hlt : i < n := by
      have := (List.getElem?_eq_some_iff.1 hi).1
      rwa [hlen] at this
    have hy : Classical.choose (hex i) = y := by simpa [hlt] using hi
    rw [← hy]
    intro j hj
    have hj0 : j = 0 := by simpa using hj
    subst hj0
    have := Classical.choose_spec (hex i) hlt
    simpa using this
theorem CellOk.slice {t e : TypeId} (ht : Tryz.prog.underlying t = some (.slice e)) {c : Value} (h : CellOk enc Tryz.prog w base spare held t c) : ∃ a n cap, c = .slice a n cap ∧ ∃ x ps, DataW.Trod enc Tryz.prog w base spare held t (.slice a n cap) x ps := by
  obtain ⟨m, ⟨x, ps⟩, h⟩ := h
  have hsh : ∃ a n cap, c = .slice a n cap := by
    rcases Go.Deep.open_slice ht h with ⟨hcs, _⟩ | ⟨⟨b, off, spot⟩, len, cap, m, n, D, Pl, hcs, _⟩
    · exact ⟨_, _, _, by simpa using hcs⟩
    · exact ⟨_, _, _, by simpa using hcs⟩
  obtain ⟨a, n, cap, rfl⟩ := hsh
  exact ⟨a, n, cap, rfl, x, ps, m, h⟩
theorem w64_of {u : Bool} {i g a : Int} {v : Int} {dy : Bool} {s : ByteArray} (hi : (Lit.int .i64 i).wf = true) (hg : (Lit.int .i64 g).wf = true) (ha : (Lit.int .i64 a).wf = true) (hv : (Lit.int .u64 v).wf = true) :
    Slt.w64 ⟨u, (i, g, a), v.toNat, dy, s⟩ := by
  have b1 := wf_i64_bounds hi
  have b2 := wf_i64_bounds hg
  have b3 := wf_i64_bounds ha
  have b4 := wf_u64_bounds hv
  unfold Slt.w64
  simp only
  omega
theorem dos_of {ao : Option Addr} {n cap : Nat} {x : DataW H} {ps : List MemPlace} (h : DataW.Trod enc Tryz.prog w base spare held 22 (.slice ao n cap) x ps) : ∃ ds : List DoX, DosX w (.slice ao n cap) ds := by
  rcases open_flat Tryz.underlying22 flatDo cellsDo (by decide) h ⟨_, _, _, rfl⟩ with hv | ⟨b, off, spot, len, cap', hv, hl, hm, hin, hc⟩
  · cases hv
    exact ⟨[], [], rfl, LSl.nil w, fun x hx => by cases hx⟩
  · cases hv
    have hex : ∀ i : Nat, ∃ y : DoX × Sv, i < n → Lies w b (off + i * 11) (enDoX y).toArray ∧ DoX.fine w y := fun i => by
      by_cases hi : i < n
      · obtain ⟨c0, h0, k0⟩ := hc i hi 0 3 rfl
        obtain ⟨z0, rfl, hz0⟩ := k0.int Tryz.underlying3
        obtain ⟨c1, h1, k1⟩ := hc i hi 1 3 rfl
        obtain ⟨z1, rfl, hz1⟩ := k1.int Tryz.underlying3
        obtain ⟨c2, h2, k2⟩ := hc i hi 2 4 rfl
        obtain ⟨z2, rfl⟩ := k2.bool Tryz.underlying4
        obtain ⟨c3, h3, k3⟩ := hc i hi 3 3 rfl
        obtain ⟨z3, rfl, hz3⟩ := k3.int Tryz.underlying3
        obtain ⟨c4, h4, k4⟩ := hc i hi 4 3 rfl
        obtain ⟨z4, rfl, hz4⟩ := k4.int Tryz.underlying3
        obtain ⟨c5, h5, k5⟩ := hc i hi 5 3 rfl
        obtain ⟨z5, rfl, hz5⟩ := k5.int Tryz.underlying3
        obtain ⟨c6, h6, k6⟩ := hc i hi 6 36 rfl
        obtain ⟨z6, rfl, hz6⟩ := k6.int Tryz.underlying36
        obtain ⟨c7, h7, k7⟩ := hc i hi 7 4 rfl
        obtain ⟨z7, rfl⟩ := k7.bool Tryz.underlying4
        obtain ⟨c8, h8, k8⟩ := hc i hi 8 9 rfl
        obtain ⟨z8, rfl, hz8⟩ := k8.string Tryz.underlying9
        obtain ⟨c9, h9, k9⟩ := hc i hi 9 36 rfl
        obtain ⟨z9, rfl, hz9⟩ := k9.int Tryz.underlying36
        obtain ⟨ca, ha, ka⟩ := hc i hi 10 39 rfl
        obtain ⟨a5, n5, cp5, rfl, x5, p5, t5⟩ := CellOk.slice Tryz.underlying39 ka
        obtain ⟨zs, hz⟩ := ints_of t5
        have b0 := wf_i64_bounds hz0
        have b1 := wf_i64_bounds hz1
        have b6 := wf_u64_bounds hz6
        have b9 := wf_u64_bounds hz9
        have hw := w64_of (u := z2) (dy := z7) (s := z8) hz3 hz4 hz5 hz6
        obtain ⟨m6, rfl⟩ := Int.eq_ofNat_of_zero_le b6.1
        obtain ⟨m9, rfl⟩ := Int.eq_ofNat_of_zero_le b9.1
        refine ⟨(⟨z0, z1, ⟨z2, (z3, z4, z5), m6, z7, z8⟩, m9, zs⟩, (a5, n5, cp5)), fun _ => ⟨fun j hj => ?_, ⟨hz, ⟨b0.1, by simp only; omega⟩, ⟨b1.1, by simp only; omega⟩, hw, hz8, by simp only; omega⟩⟩⟩
        have hj5 : j < 11 := by simpa [enDoX] using hj
        match j, hj5 with
        | 0, _ => exact h0
        | 1, _ => exact h1
        | 2, _ => exact h2
        | 3, _ => exact h3
        | 4, _ => exact h4
        | 5, _ => exact h5
        | 6, _ => exact h6
        | 7, _ => exact h7
        | 8, _ => exact h8
        | 9, _ => exact h9
        | 10, _ => exact ha
      · exact ⟨(⟨0, 0, Slt.no, 0, []⟩, (none, 0, 0)), fun h => absurd h hi⟩
    have hlen : ((List.range n).map fun i => Classical.choose (hex i)).length = n := by simp
    have hget : ∀ i y, ((List.range n).map fun i => Classical.choose (hex i))[i]? = some y → i < n ∧ Classical.choose (hex i) = y := fun i y hi => by
      have hlt : i < n := by
        have := (List.getElem?_eq_some_iff.1 hi).1
        rwa [hlen] at this
      exact ⟨hlt, by simpa [hlt] using hi⟩
    refine ⟨((List.range n).map fun i => Classical.choose (hex i)).map (·.1), (List.range n).map fun i => Classical.choose (hex i), rfl, ⟨_, cap, by rw [hlen], by rw [hlen]; exact hl, hm, fun h0 => ?_⟩, fun y hy => ?_⟩
    · rw [hlen] at h0
      refine ⟨b, off, by rw [(hin h0).1], (hin h0).2, fun i y hi => ?_⟩
      obtain ⟨hlt, hy⟩ := hget i y hi
      rw [← hy]
      exact (Classical.choose_spec (hex i) hlt).1
    · obtain ⟨i, hi⟩ := List.mem_iff_getElem?.1 hy
      obtain ⟨hlt, hy⟩ := hget i y hi
      rw [← hy]
      exact (Classical.choose_spec (hex i) hlt).2
end
theorem doC_data (y : DoX × Sv) (t : ByteArray) : (doC y).setIfInBounds 8 (.string t) = doC ({ y.1 with x := { y.1.x with data := t } }, y.2) := rfl
set_option maxRecDepth 20000 in
set_option maxHeartbeats 4000000 in
/-- At most n calls, none too long. -/
theorem few_any (w : World) (v : Value) (ds : List DoX) (h : DosX w v ds) (n : Nat) (hn : n ≤ 100) : Calls Tryz.prog 8 #[v, .int .i64 n] w
    fun e w' => ∃ v' es, e = .returned v' ∧ DosX w' v' es ∧ es.length ≤ n ∧ (∀ y ∈ es, y.x.data.size ≤ 70) ∧ Below w.heap.size w w' := by
  obtain ⟨xs, -, hxL, hxD⟩ := h
  obtain ⟨ao, ca, rfl, x1, x2, x3⟩ := hxL
  unfold maxLen at x2
  have hb63 : (xs.length : Int) ≤ 9223372036854775807 := by omega
  have hn100 : (n : Int) ≤ 100 := by omega
  have HXD := Lib.hid hxD
  have HX3 := Lib.hid x3
  clear hxD x3
  go_enter Tryz.func8, Tryz.ntmps8
  go_wp2
  go_loopw [5, 6] (fun ov iv wi => ∃ (k : Nat) (ys : List (DoX × Sv)), k ≤ xs.length ∧ k ≤ n ∧ iv = .int .i64 k ∧ Below w.heap.size w wi ∧ LOut enDoX 11 41 w.heap.size wi ov ys ∧ ys.length = k ∧ ∀ y ∈ ys, DoX.fine w y ∧ y.1.x.data.size ≤ 70) (fun _ iv _ => xs.length - (intOf iv).toNat)
  case atStart => exact ⟨0, [], Nat.zero_le _, Nat.zero_le _, rfl, Below.refl _ _, LOut.nil (Nat.le_refl _), rfl, fun y hy => by cases hy⟩
  case round =>
    obtain ⟨k, ys, hk, hkn, rfl, hb, hO, hyl, hyf⟩ := hrel
    have HB := Lib.hid hb
    have HO := Lib.hid hO
    have HYL := Lib.hid hyl
    have HYF := Lib.hid hyf
    clear hb hO hyl hyf
    by_cases hin : k < xs.length ∧ k < n
    · obtain ⟨hkl, hkm⟩ := hin
      have hd1 : decide ((k : Int) < (xs.length : Int)) = true := decide_eq_true (by omega)
      have hkl' : (k : Int) < (xs.length : Int) := by omega
      have hkm' : (k : Int) < (n : Int) := by omega
      obtain ⟨x, hx⟩ : ∃ x, xs[k]? = some x := ⟨_, List.getElem?_eq_getElem hkl⟩
      obtain ⟨b4, o4, rfl, hb4, hc4⟩ := HX3.out (by omega)
      have hlx : Lies wr b4 (o4 + k * 11) (doC x) := (hc4 k x hx).below' HB.out hb4
      have hfx := HXD.out x (List.mem_of_getElem? hx)
      have hag := aggDo x
      have hon := oneDo x
      have hsz11 : (doC x).size = 11 := rfl
      obtain ⟨w2, hw2⟩ : ∃ w2, wr.alloc (.cells (doC x) 41) = w2 := ⟨_, rfl⟩
      have hb2 : Below wr.heap.size wr w2 := by rw [← hw2]; exact (Below.refl _ _).alloc (Nat.le_refl _) _
      have hX2 : w2.heap[wr.heap.size]? = some (.cells (doC x) 41 (0, 0)) := by rw [← hw2]; exact heap_alloc_at
      have q8 : w2.cell? ⟨wr.heap.size, 8, none⟩ = some (.string x.1.x.data) := cell_of hX2 rfl
      have f8 : w2.frozen? ⟨wr.heap.size, 8, none⟩ = false := free_of hX2
      have hsh := short_any w2 x.1.x.data 70 hfx.data (by decide)
      rw [show ((70 : Nat) : Int) = 70 from rfl] at hsh
      have HFX := Lib.hid hfx
      have HB2 := Lib.hid hb2
      have HX2 := Lib.hid hX2
      clear hx hc4 hfx hb2 hX2
      go_upto_region 6 with (first
        | ((with_reducible refine wpList_loadA hag hlx ?_ ?_); rfl; go_frame)
        | ((with_reducible refine wpList_storeA_new hag ?_ hon ?_ ?_ ?_); (rw [hsz11]; rfl); rfl; rfl; go_frame)
        | fail)
      simp only [hw2] at *
      clear hw2 hlx
      go_wp2_with fail
      refine hsh.mono ?_
      rintro e wt ⟨t, rfl, ht, hw⟩
      obtain rfl := hw.symm
      clear hw hsh
      go_upto_region 7 with fail
      have hm3 := (Mod.refl (fun b => b = wr.heap.size) w2).setCell ⟨wr.heap.size, 8, none⟩ (.string t) (fun _ => rfl)
      have hX3 : (w2.setCell ⟨wr.heap.size, 8, none⟩ (.string t)).heap[wr.heap.size]? = some (.cells (doC ({ x.1 with x := { x.1.x with data := t } }, x.2)) 41 (0, 0)) := by
        rw [heap_setCell_at HX2.out, doC_data]
      have hb3 : Below wr.heap.size wr (w2.setCell ⟨wr.heap.size, 8, none⟩ (.string t)) := HB2.out.trans (hm3.below HB2.out.size fun y hy e => by have e : y = wr.heap.size := e; omega)
      have hfy : DoX.fine w ({ x.1 with x := { x.1.x with data := t } }, x.2) := ⟨HFX.out.keep, HFX.out.kind, HFX.out.num, HFX.out.x, by show t.size ≤ maxLen; unfold maxLen; omega, HFX.out.v⟩
      obtain ⟨y, hy⟩ : ∃ y : DoX × Sv, ({ x.1 with x := { x.1.x with data := t } }, x.2) = y := ⟨_, rfl⟩
      have hyd : y.1.x.data.size ≤ 70 := by rw [← hy]; exact ht
      rw [hy] at hX3 hfy
      have HFY := Lib.hid hfy
      have HB3 := Lib.hid hb3
      have HYD := Lib.hid hyd
      have hL3 := lies_of hX3
      clear hm3 hX3 hb3 hfy hyd hy q8 f8 ht HB2 HX2 HFX
      generalize w2.setCell ⟨wr.heap.size, 8, none⟩ (.string t) = w3 at *
      have hag2 := aggDo y
      obtain ⟨a5, n5, c5, rfl⟩ := HO.out.shape
      have hO3 := HO.out.below HB3.out
      have hol : ys.length ≤ 1000000000 := by rw [HYL.out]; omega
      have hsz2 : (doC y).size = 11 := rfl
      go_wp2_with (first
        | ((with_reducible refine wpList_loadA hag2 hL3 ?_ ?_); rfl; go_frame)
        | ((with_reducible refine wpList_exec rfl (exec_buildSliceA (k := 11) (cells := doC y) Tryz.underlying22 (by kernel_rfl) (by omega) (by omega) rfl ?_) ?_); rfl; go_frame)
        | ((with_reducible refine wpList_append1Y elDo hO3 y hol ?_ ?_ ?_ ?_); rfl; rfl; rfl; (intro v9 w9 hO9 hm9 hv9; have HO9 := Lib.hid hO9; have HM9 := Lib.hid hm9; clear hO9 hm9 hv9); go_frame)
        | fail)
      have hb9 : Below w.heap.size w w9 := (HB.out.trans (HB3.out.mono HB.out.size)).trans (HM9.out.below (Nat.le_trans HB.out.size HB3.out.size) fun z hz e => by have := HO.out.lo z e; omega)
      have HB9 := Lib.hid hb9
      have hyf : ∀ z ∈ ys ++ [y], DoX.fine w z ∧ z.1.x.data.size ≤ 70 := fun z hz => by
        rcases List.mem_append.1 hz with hz | hz
        · exact HYF.out z hz
        · rw [List.mem_singleton.1 hz]
          exact ⟨HFY.out, HYD.out⟩
      have HYF2 := Lib.hid hyf
      clear hb9 hyf hO3
      go_roundw
      case rel => exact ⟨k + 1, ys ++ [y], by omega, by omega, by go_num, HB9.out, HO9.out, by rw [List.length_append, HYL.out]; rfl, HYF2.out⟩
      case measure => simp [intOf]; omega
    · have hfin : ∃ v' es, u5 = v' ∧ DosX wr v' es ∧ es.length ≤ n ∧ (∀ y ∈ es, y.x.data.size ≤ 70) := by
        refine ⟨_, ys.map (·.1), rfl, ⟨ys, rfl, HO.out.sl elDo.len, fun y hy => (HYF.out y hy).1.below HB.out⟩, by rw [List.length_map, HYL.out]; exact hkn, fun z hz => ?_⟩
        obtain ⟨y, hy, rfl⟩ := List.mem_map.1 hz
        exact (HYF.out y hy).2
      have HFIN := Lib.hid hfin
      clear hfin
      by_cases h1 : k < xs.length
      · have hd1 : decide ((k : Int) < (xs.length : Int)) = true := decide_eq_true (by omega)
        have hkm' : ¬ (k : Int) < (n : Int) := by omega
        have hkl' : (k : Int) < (xs.length : Int) := by omega
        go_wp2
        go_ret
        obtain ⟨v', es, rfl, f1, f2, f3⟩ := HFIN.out
        exact ⟨_, rfl, es, f1, f2, f3, HB.out⟩
      · have hkl' : ¬ (k : Int) < (xs.length : Int) := by omega
        go_wp2
        go_ret
        obtain ⟨v', es, rfl, f1, f2, f3⟩ := HFIN.out
        exact ⟨_, rfl, es, f1, f2, f3, HB.out⟩
end Go.Proofs.YtldimgchpgoggaaGreat

/- Blocks that are kept: what is dirty is not given up: plain. What a call makes of a cache. -/
namespace Go.Tn.Pc
open Go.Tn Go.Tn.Slo Go.Tn.Ck Go.Tn.Dk
/-- Pinned is what is dirty. -/
def PC.Pin (c : PC) : Prop := ∀ i, i < c.L.length → (c.R.at_ i).pinned = (c.at_ i).dirty
theorem pin_new (n num : Nat) : (PC.new n num).Pin := fun i _ => by
  rw [new_at]
  unfold PC.new Rn.at_
  simp only
  rw [List.getElem?_replicate]
  split <;> rfl
theorem PC.Pin.set {c : PC} (h : c.Pin) (hok : c.Ok) {i : Nat} (hi : i < c.L.length) (x : Slt) : (c.set i x).Pin := fun j hj => by
  rw [set_len] at hj
  have hR : (c.set i x).R.at_ j = (ringSet c.R i x).at_ j := rfl
  rw [hR, ringSet_at (by rw [hok.len]; exact hi), set_at hi]
  by_cases hji : j = i
  · rw [if_pos hji, if_pos hji]
    by_cases hn : x = Slt.no
    · rw [if_pos hn, hn]
      rfl
    · rw [if_neg hn]
  · rw [if_neg hji, if_neg hji]
    exact h j hj
theorem touch_pinned (r : Rn) (i j : Nat) : ((r.touch i).at_ j).pinned = (r.at_ j).pinned := by
  unfold Rn.touch
  split
  · by_cases hi : i < r.L.length
    · rw [rn_at_put hi]
      by_cases hj : j = i
      · rw [if_pos hj, hj]
      · rw [if_neg hj]
    · unfold Rn.put Rn.at_
      simp only
      rw [List.set_eq_of_length_le (by omega)]
  · rfl
theorem PC.Pin.get {c : PC} (h : c.Pin) (b : Blk) : (c.get b).1.Pin := by
  unfold PC.get
  split
  · intro j hj
    rw [touch_pinned]
    exact h j hj
  · exact h
theorem get_L (c : PC) (b : Blk) : (c.get b).1.L = c.L := by
  unfold PC.get
  split <;> rfl
theorem PC.Pin.put {c : PC} (h : c.Pin) (hok : c.Ok) (hh : c.R.hand < c.R.L.length) (x : Slt) : (c.put x).1.Pin := by
  obtain ⟨k1, k2, k3, k4, k5, k6⟩ := place_ok hok hh x.blk
  have hp : (c.place x.blk).1.Pin := fun i hi => by
    rw [k5, at_of_L k2]
    rw [k2] at hi
    exact h i hi
  unfold PC.put
  split
  · exact h
  · rename_i hx
    have hx := Classical.not_not.1 hx
    split
    · exact hp
    · rename_i h0
      have h0 := Classical.not_not.1 h0
      exact hp.set k1 (place_set hok hh hx.1 h0).1 x
/-- Where nothing is free all is dirty. -/
theorem full_dirty {c : PC} (h : c.Pin) (hok : c.Ok) (hh : c.R.hand < c.R.L.length) {x : Slt} (h8 : (c.put x).2 = 8) {is : List Nat} (hby : ByBlk c qDirty is) : is.length = c.L.length := by
  have hp8 : (c.place x.blk).2.2 = 8 := by
    unfold PC.put at h8
    split at h8
    · cases h8
    · split at h8
      · exact h8
      · cases h8
  obtain ⟨k1, k2, k3, k4, k5, k6⟩ := place_ok hok hh x.blk
  rcases k6 with ⟨-, -, ha, hu, -⟩ | ⟨e, -⟩
  · have hsel : c.sel qDirty = List.range c.L.length := by
      unfold PC.sel
      rw [List.filter_eq_self]
      intro i hi
      have hi := List.mem_range.1 hi
      unfold PC.isQ qDirty
      rw [hu i hi, ← h i hi]
      unfold Rn.allPinned at ha
      rw [List.all_eq_true] at ha
      unfold Rn.at_
      rw [List.getElem?_eq_getElem (by rw [hok.len]; exact hi)]
      exact ha _ (List.getElem_mem _)
    rw [hby.perm.length_eq, hsel, List.length_range]
  · rw [hp8] at e
    cases e
theorem find_of_L {c d : PC} (h : c.L = d.L) (b : Blk) : c.find b = d.find b := by
  unfold PC.find PC.at_
  rw [h]
/-- What was dirty is there still. -/
theorem dirty_stays {c : PC} (h : c.Pin) (hok : c.Ok) (hh : c.R.hand < c.R.L.length) (x : Slt) {j : Nat} (hj : j < c.L.length) (hu : (c.at_ j).used = true) (hd : (c.at_ j).dirty = true) :
    ∃ k, (c.put x).1.find (c.at_ j).blk = some k ∧ ((c.at_ j).blk ≠ x.blk → (c.put x).1.at_ k = c.at_ j) := by
  obtain ⟨k1, k2, k3, k4, k5, k6⟩ := place_ok hok hh x.blk
  have hput := put_ok hok hh x
  have same : ∀ c' : PC, c'.L = c.L → ∃ k, c'.find (c.at_ j).blk = some k ∧ ((c.at_ j).blk ≠ x.blk → c'.at_ k = c.at_ j) := fun c' e => by
    refine ⟨j, ?_, fun _ => at_of_L e j⟩
    rw [find_of_L e]
    exact (find_some hok).2 ⟨hj, hu, rfl⟩
  by_cases hx : x.is ∧ x ≠ Slt.no
  · by_cases h0 : (c.place x.blk).2.2 = 0
    · have e1 : c.put x = ((c.place x.blk).1.set (c.place x.blk).2.1 x, 0) := by
        unfold PC.put
        rw [if_neg (fun e => e hx), if_neg (fun e => e h0)]
      rw [e1] at hput ⊢
      simp only at hput ⊢
      obtain ⟨p1, p2⟩ := place_set hok hh hx.1 h0
      have hat := fun j => set_at p1 x j
      by_cases hji : j = (c.place x.blk).2.1
      · rcases k6 with ⟨e, -⟩ | ⟨-, -, -, hf⟩
        · rw [h0] at e
          cases e
        · have hbx : (c.at_ j).blk = x.blk := by
            cases hfb : c.find x.blk with
            | none =>
              rw [← hji] at hf
              rcases hf hfb with e | e
              · rw [hu] at e
                cases e
              · rw [h j hj, hd] at e
                cases e
            | some i =>
              have hpi : (c.place x.blk).2.1 = i := by unfold PC.place; rw [hfb]
              have := (find_some hok).1 hfb
              rw [hji, hpi]
              exact this.2.2
          refine ⟨j, ?_, fun e => absurd hbx e⟩
          refine (find_some hput.1).2 ⟨by rw [hput.2.1]; exact hj, ?_, ?_⟩
          · rw [hat, if_pos hji]
            exact (is_used hx.1).2 hx.2
          · rw [hat, if_pos hji]
            exact hbx.symm
      · refine ⟨j, ?_, fun _ => ?_⟩
        · refine (find_some hput.1).2 ⟨by rw [hput.2.1]; exact hj, ?_, ?_⟩
          · rw [hat, if_neg hji, at_of_L k2]
            exact hu
          · rw [hat, if_neg hji, at_of_L k2]
        · rw [hat, if_neg hji, at_of_L k2]
    · have e1 : c.put x = ((c.place x.blk).1, (c.place x.blk).2.2) := by
        unfold PC.put
        rw [if_neg (fun e => e hx), if_pos h0]
      rw [e1]
      exact same _ k2
  · have e1 : c.put x = (c, 2) := by
      unfold PC.put
      rw [if_pos hx]
    rw [e1]
    exact same _ rfl
open Classical in
/-- What a call makes of a cache, its answer. -/
noncomputable def PC.does (c : PC) (y : Go.Proofs.YtldimgchpgoggaaGreat.DoX) : PC × Nat :=
  if y.kind = 0 then c.put y.x
  else if y.kind = 2 then Go.Proofs.YtldimgchpgoggaaGreat.PC.drop c y.x.blk
  else if y.kind = 3 then (c.map (qFile (y.x.blk.1, y.x.blk.2.1)) tNo, 0)
  else if y.kind = 4 then (if y.v ≤ 1099511627775 then (c.map (qClean (y.x.blk.1, y.x.blk.2.1)) (tVer y.v), 0) else (c, 2))
  else if y.kind = 5 then (if y.v ≤ 1099511627775 then ({ c with num := y.v }, 0) else (c, 2))
  else (c, 0)
end Go.Tn.Pc
namespace Go.Proofs.YtldimgchpgoggaaGreat
open Go.RowKit Go.Tn Go.Tn.Bt Go.Tn.Lp Go.Tn.Dk Go.Tn.Ino Go.Tn.Slo Go.Tn.Ck Go.Tn.Pc
section
variable {w0 w w1 w' : World} {G : Nat → Prop} {P P' : PC} {I I' : Lg → Dsk → Prop} {c p i : Nat}
theorem PTo.ahead (hb : Below w.heap.size w w1) (hG : ∀ b, G b → b < w.heap.size) (h : PTo w0 I c p P G w1 w') : PTo w0 I c p P G w w' := by
  obtain ⟨G', h1, h2, h3⟩ := h
  refine ⟨G', h1, ((Mod.of_below hb).mono (T := G) fun b hb hs => absurd hb (Nat.not_lt.2 hs)).trans h2 (fun _ h => h) fun _ _ h => h, fun b hb' => (h3 b hb').imp id fun h => Nat.le_trans hb.size h⟩
theorem PTo.behind (h : PTo w0 I c p P G w w1) (hb : Below w1.heap.size w1 w') : PTo w0 I c p P G w w' := by
  obtain ⟨G', h1, h2, h3⟩ := h
  exact ⟨G', h1.below hb, h2.trans (Mod.of_below hb) (T := G) (fun _ h => h) fun b hb' hs => absurd (Nat.lt_of_lt_of_le hb' h2.size) (Nat.not_lt.2 hs), h3⟩
theorem doC_x {b : Nat} {y : DoX × Sv} (h : w.heap[b]? = some (.cells (doC y) 41 (0, 0))) : Lies w b 2 (slC y.1.x) := fun j hj => by
  have hj7 : j < 7 := hj
  match j, hj7 with
  | 0, _ => exact cell_of h rfl
  | 1, _ => exact cell_of h rfl
  | 2, _ => exact cell_of h rfl
  | 3, _ => exact cell_of h rfl
  | 4, _ => exact cell_of h rfl
  | 5, _ => exact cell_of h rfl
  | 6, _ => exact cell_of h rfl
theorem doC_blk {b : Nat} {y : DoX × Sv} (h : w.heap[b]? = some (.cells (doC y) 41 (0, 0))) : Lies w b 3 (blC y.1.x.blk) := fun j hj => by
  match j, hj with
  | 0, _ => exact cell_of h rfl
  | 1, _ => exact cell_of h rfl
  | 2, _ => exact cell_of h rfl
theorem doC_file {b : Nat} {y : DoX × Sv} (h : w.heap[b]? = some (.cells (doC y) 41 (0, 0))) : Lies w b 3 #[.int .i64 y.1.x.blk.1, .int .i64 y.1.x.blk.2.1] := fun j hj => by
  match j, hj with
  | 0, _ => exact cell_of h rfl
  | 1, _ => exact cell_of h rfl
set_option maxRecDepth 20000 in
set_option maxHeartbeats 4000000 in
/-- A call that changes something, where nothing burns. -/
theorem does_any (h : PQ w0 i c p P G w) (hi : i ≤ 900) (y : DoX × Sv) (hf : DoX.fine w y) : Calls Tryz.prog 13 #[.pointer (some ⟨c, 0, none⟩), .agg (doC y)] w fun e w' => e = .returned (.int .i64 ((P.does y.1).2 : Nat)) ∧ PQT w0 (i + 2) c p (P.does y.1).1 G w w' := by
  obtain ⟨w1, hw1⟩ : ∃ w1, w.alloc (.cells (doC y) 41) = w1 := ⟨_, rfl⟩
  have hb1 : Below w.heap.size w w1 := by rw [← hw1]; exact (Below.refl _ _).alloc (Nat.le_refl _) _
  have hX : w1.heap[w.heap.size]? = some (.cells (doC y) 41 (0, 0)) := by rw [← hw1]; exact heap_alloc_at
  have h1 := h.below hb1
  have q0 : w1.cell? ⟨w.heap.size, 0, none⟩ = some (.int .i64 y.1.kind) := cell_of hX rfl
  have q9 : w1.cell? ⟨w.heap.size, 9, none⟩ = some (.int .u64 (y.1.v : Nat)) := cell_of hX rfl
  have hLx := doC_x hX
  have hLb := doC_blk hX
  have hLf := doC_file hX
  have hagx := aggXs y.1.x
  have hagb := aggBl y.1.x.blk
  have hagf := aggFi y.1.x.blk.1 y.1.x.blk.2.1
  have HA : Hid (∀ {P' : PC} {j : Nat} {w' : World}, PQT w0 j c p P' G w1 w' → PQT w0 j c p P' G w w') := Lib.hid fun h' => PTo.ahead hb1 h.hi h'
  have H1 := Lib.hid h1
  have HF := Lib.hid hf
  have HX := Lib.hid hX
  have hi' := hi
  have hkx := y.1.kind
  obtain ⟨k, hk⟩ : ∃ k, y.1.kind = k := ⟨_, rfl⟩
  rw [hk] at q0
  have HK := Lib.hid hk
  clear hb1 h h1 hf hX hk hkx
  by_cases k0 : k = 0
  · subst k0
    have hd : P.does y.1 = P.put y.1.x := by unfold PC.does; rw [if_pos HK.out]
    have HD := Lib.hid hd
    have hmi := mine_any w1 y.1.x
    clear hd q9
    go_enter Tryz.func13, Tryz.ntmps13
    go_upto_region 1 with fail
    simp only [hw1] at *
    clear hw1
    go_wp2_with (first
      | ((with_reducible refine wpList_loadA hagx hLx ?_ ?_); rfl; go_frame)
      | fail)
    refine hmi.mono ?_
    rintro e w2 ⟨rfl, hb2⟩
    have hpu := (H1.out.below hb2).putQ hi' y.1.x HF.out.x HF.out.data
    have HB2 := Lib.hid hb2
    clear hmi hb2
    go_wp2_with fail
    refine hpu.mono ?_
    rintro e w3 ⟨rfl, hT⟩
    have HT := Lib.hid (HA.out (PTo.ahead HB2.out H1.out.hi hT))
    clear hpu hT
    go_wp2
    go_ret
    rw [HD.out]
    exact ⟨rfl, HT.out⟩
  · by_cases k2 : k = 2
    · subst k2
      have hd : P.does y.1 = PC.drop P y.1.x.blk := by unfold PC.does; rw [HK.out]; rfl
      have HD := Lib.hid hd
      have hpu := H1.out.dropQ hi' y.1.x.blk
      clear hd q9 k0
      go_enter Tryz.func13, Tryz.ntmps13
      go_upto_region 1 with fail
      simp only [hw1] at *
      clear hw1
      go_wp2_with (first
        | ((with_reducible refine wpList_loadA hagb hLb ?_ ?_); rfl; go_frame)
        | fail)
      refine hpu.mono ?_
      rintro e w3 ⟨rfl, hT⟩
      have HT := Lib.hid (HA.out hT)
      clear hpu hT
      go_wp2
      go_ret
      rw [HD.out]
      exact ⟨rfl, HT.out⟩
    · by_cases k3 : k = 3
      · subst k3
        have hd : P.does y.1 = (P.map (qFile (y.1.x.blk.1, y.1.x.blk.2.1)) tNo, 0) := by unfold PC.does; rw [HK.out]; rfl
        have HD := Lib.hid hd
        have hpu := H1.out.dropFileQ hi' (y.1.x.blk.1, y.1.x.blk.2.1)
        clear hd q9 k0 k2
        go_enter Tryz.func13, Tryz.ntmps13
        go_upto_region 1 with fail
        simp only [hw1] at *
        clear hw1
        go_wp2_with (first
          | ((with_reducible refine wpList_loadA hagf hLf ?_ ?_); rfl; go_frame)
          | fail)
        refine hpu.mono ?_
        rintro e w3 ⟨rfl, hT⟩
        have HT := Lib.hid (HA.out hT)
        clear hpu hT
        go_wp2
        go_ret
        rw [HD.out]
        exact ⟨rfl, HT.out⟩
      · by_cases k4 : k = 4
        · subst k4
          have hpu : Calls Tryz.prog 32 #[.pointer (some ⟨c, 0, none⟩), .agg #[.int .i64 y.1.x.blk.1, .int .i64 y.1.x.blk.2.1], .int .u64 (y.1.v : Nat)] w1 fun e w' => e = .returned (.int .i64 ((P.does y.1).2 : Nat)) ∧ PQT w0 (i + 2) c p (P.does y.1).1 G w1 w' := by
            by_cases hv : y.1.v ≤ 1099511627775
            · have hd : P.does y.1 = (P.map (qClean (y.1.x.blk.1, y.1.x.blk.2.1)) (tVer y.1.v), 0) := by unfold PC.does; rw [HK.out, if_pos hv]; rfl
              rw [hd]
              exact H1.out.retagQ hi' (y.1.x.blk.1, y.1.x.blk.2.1) y.1.v hv
            · have hd : P.does y.1 = (P, 2) := by unfold PC.does; rw [HK.out, if_neg hv]; rfl
              rw [hd]
              exact (H1.out.retag_no (y.1.x.blk.1, y.1.x.blk.2.1) y.1.v hv HF.out.v).mono fun e w' ⟨he, hb⟩ => ⟨he, (H1.out.here.behind hb).imp fun _ _ h => h.mono (by omega)⟩
          clear k0 k2 k3
          go_enter Tryz.func13, Tryz.ntmps13
          go_upto_region 1 with fail
          simp only [hw1] at *
          clear hw1
          go_wp2_with (first
            | ((with_reducible refine wpList_loadA hagf hLf ?_ ?_); rfl; go_frame)
            | fail)
          refine hpu.mono ?_
          rintro e w3 ⟨rfl, hT⟩
          have HT := Lib.hid (HA.out hT)
          clear hpu hT
          go_wp2
          go_ret
          exact ⟨rfl, HT.out⟩
        · by_cases k5 : k = 5
          · subst k5
            have hpu : Calls Tryz.prog 33 #[.pointer (some ⟨c, 0, none⟩), .int .u64 (y.1.v : Nat)] w1 fun e w' => e = .returned (.int .i64 ((P.does y.1).2 : Nat)) ∧ PQT w0 (i + 2) c p (P.does y.1).1 G w1 w' := by
              by_cases hv : y.1.v ≤ 1099511627775
              · have hd : P.does y.1 = ({ P with num := y.1.v }, 0) := by unfold PC.does; rw [HK.out, if_neg (by decide), if_neg (by decide), if_neg (by decide), if_neg (by decide), if_pos rfl, if_pos hv]
                rw [hd]
                exact H1.out.setNumberQ hi' y.1.v hv
              · have hd : P.does y.1 = (P, 2) := by unfold PC.does; rw [HK.out, if_neg (by decide), if_neg (by decide), if_neg (by decide), if_neg (by decide), if_pos rfl, if_neg hv]
                rw [hd]
                refine (H1.out.setNumber_no y.1.v hv HF.out.v).mono ?_
                rintro e w' ⟨he, rfl⟩
                exact ⟨he, H1.out.here.imp fun _ _ h => h.mono (by omega)⟩
            clear k0 k2 k3 k4
            go_enter Tryz.func13, Tryz.ntmps13
            go_upto_region 1 with fail
            simp only [hw1] at *
            clear hw1
            go_wp2_with fail
            refine hpu.mono ?_
            rintro e w3 ⟨rfl, hT⟩
            have HT := Lib.hid (HA.out hT)
            clear hpu hT
            go_wp2
            go_ret
            exact ⟨rfl, HT.out⟩
          · have hd : P.does y.1 = (P, 0) := by unfold PC.does; rw [HK.out, if_neg k0, if_neg k2, if_neg k3, if_neg k4, if_neg k5]
            have HD := Lib.hid hd
            have hpu := H1.out.syncQ
            clear hd q9
            go_enter Tryz.func13, Tryz.ntmps13
            go_upto_region 1 with fail
            simp only [hw1] at *
            clear hw1
            go_wp2_with fail
            refine hpu.mono ?_
            rintro e w3 ⟨rfl, hT⟩
            have HT := Lib.hid ((HA.out hT).imp (I' := fun l d => PInv (i + 2) l d P) fun _ _ h => h.mono (by omega))
            clear hpu hT
            go_wp2
            go_ret
            rw [HD.out]
            exact ⟨rfl, HT.out⟩
end
end Go.Proofs.YtldimgchpgoggaaGreat
