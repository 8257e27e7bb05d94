/- A record's sector: Encode. -/
import Derived.Test.YtipbaajdnnddgaaGreatRows
import Derived.Test.YtipbaajdnnddgaaGreatMgVlj7
import Derived.Test.YtipbaajdnnddgaaGreatMgVlj8
import Derived.Test.YtipbaajdnnddgaaGreatMgVlj6
import Derived.ChangeKeysEq
import Derived.Test.YtipbaajdnnddgaaGreatMgVlj10
import Derived.Test.YtipbaajdnnddgaaGreatMgVlj16
/- Inodes: plain; right, unsigned. -/
namespace Go.Tn.Ino
open Go.RowKit Go.Tn.Bt
/-- What is kept of a file. -/
structure Ino where
  kind : Nat
  gen : Nat
  ver : Nat
  bl : List Nat
/-- It fits its bits. -/
structure Ino.fits (x : Ino) : Prop where
  kind : x.kind < 4
  gen : x.gen < 2147483648
  ver : x.ver < 1099511627776
  len : x.bl.length = 8
  bl : ∀ p ∈ x.bl, p < 4096
def Ino.free (g : Nat) : Ino := ⟨0, g, 0, [0, 0, 0, 0, 0, 0, 0, 0]⟩
def Ino.right (x : Ino) : Bool := if x.kind = 1 ∨ x.kind = 2 then true else if x.kind = 0 then decide (x.ver = 0) && x.bl.all (· == 0) else false
def Ino.bits (x : Ino) : List Bool := bitsN x.kind 2 ++ bitsN x.gen 31 ++ bitsN x.ver 40 ++ x.bl.flatMap (bitsN · 12)
/-- A row of bits as a sector's bytes. -/
def sector (L : List Bool) : List Nat := pack L ++ List.replicate (128 - (pack L).length) 0
def Ino.sec (x : Ino) : List Nat := sector x.bits
theorem bflat_len (k : Nat) : ∀ l : List Nat, (l.flatMap (bitsN · k)).length = k * l.length
  | [] => rfl
  | x :: l => by rw [List.flatMap_cons, List.length_append, bitsN_len, bflat_len k l, List.length_cons, Nat.mul_succ, Nat.add_comm]
theorem Ino.bits_len {x : Ino} (h : x.bl.length = 8) : x.bits.length = 169 := by
  unfold Ino.bits
  rw [List.length_append, List.length_append, List.length_append, bitsN_len, bitsN_len, bitsN_len, bflat_len, h]
theorem sector_len {L : List Bool} (h : L.length ≤ 1024) : (sector L).length = 128 := by
  unfold sector
  rw [List.length_append, List.length_replicate, pack_len]
  omega
theorem sector_lt (L : List Bool) : ∀ x ∈ sector L, x < 256 := fun x hx => by
  rcases List.mem_append.1 hx with h | h
  · exact pack_lt L x h
  · rw [List.eq_of_mem_replicate h]
    decide
/-- The inode that a sector's bits tell. -/
def inoAt (b : List Nat) : Ino := ⟨natOf (((unpack b).drop 0).take 2), natOf (((unpack b).drop 2).take 31), natOf (((unpack b).drop 33).take 40), (List.range 8).map fun j => natOf (((unpack b).drop (73 + 12 * j)).take 12)⟩
def inoOf (b : List Nat) : Option Ino := if (inoAt b).right = true ∧ (inoAt b).sec = b then some (inoAt b) else none
theorem inoAt_fits (b : List Nat) : (inoAt b).fits := by
  have h : ∀ (L : List Bool) (k : Nat), natOf (L.take k) < 2 ^ k := fun L k => Nat.lt_of_lt_of_le (natOf_lt _) (Nat.pow_le_pow_right (by decide) (by rw [List.length_take]; exact Nat.min_le_left _ _))
  refine ⟨h _ 2, h _ 31, h _ 40, by simp [inoAt], fun p hp => ?_⟩
  unfold inoAt at hp
  obtain ⟨j, -, rfl⟩ := List.mem_map.1 hp
  exact h _ 12
end Go.Tn.Ino
namespace Go.Proofs.YtipbaajdnnddgaaGreat
open Go.RowKit Go.Tn Go.Tn.Bt Go.Tn.Ino
def inoL (x : Ino) : List Value := .int .i64 x.kind :: .int .i64 x.gen :: .int .u64 x.ver :: x.bl.map fun p => .int .i64 (p : Nat)
def inoC (x : Ino) : Array Value := (inoL x).toArray
def plC (bl : List Nat) : Array Value := (bl.map fun p => Value.int .i64 (p : Nat)).toArray
theorem inoC_size {x : Ino} (h : x.bl.length = 8) : (inoC x).size = 11 := by simp [inoC, inoL, h]
theorem inoC_0 (x : Ino) : (inoC x)[0]? = some (.int .i64 x.kind) := rfl
theorem inoC_1 (x : Ino) : (inoC x)[1]? = some (.int .i64 x.gen) := rfl
theorem inoC_2 (x : Ino) : (inoC x)[2]? = some (.int .u64 x.ver) := rfl
theorem inoC_b (x : Ino) {j p : Nat} (h : x.bl[j]? = some p) : (inoC x)[3 + j]? = some (.int .i64 p) := by
  simp [inoC, inoL, Nat.add_comm 3 j, h]
theorem plC_get {bl : List Nat} {j p : Nat} (h : bl[j]? = some p) : (plC bl)[j]? = some (.int .i64 p) := by simp [plC, h]
theorem inoC_one (x : Ino) : (inoC x).all (·.oneCell') = true := by
  rw [Array.all_eq_true']
  intro u hu
  simp [inoC, inoL] at hu
  rcases hu with rfl | rfl | rfl | ⟨p, -, rfl⟩ <;> rfl
theorem aggI {x : Ino} (h : x.bl.length = 8) : AggT Tryz.prog 89 (inoC x).size := ⟨⟨_, Tryz.underlying89, rfl⟩, by rw [inoC_size h]; kernel_rfl⟩
theorem aggPl {bl : List Nat} (h : bl.length = 8) : AggT Tryz.prog 87 (plC bl).size := ⟨⟨_, Tryz.underlying87, rfl⟩, by rw [show (plC bl).size = 8 by simp [plC, h]]; kernel_rfl⟩
theorem sizeInt : (Tryz.prog.info? 3).map (·.size) = some 1 := by kernel_rfl
theorem scalarInt : ScalarT Tryz.prog 3 := ⟨⟨_, Tryz.underlying3, rfl⟩⟩
theorem built_free (g : Int) : Tryz.prog.built 89 [(1, .int .i64 g)] = some #[.int .i64 0, .int .i64 g, .int .u64 0, .int .i64 0, .int .i64 0, .int .i64 0, .int .i64 0, .int .i64 0, .int .i64 0, .int .i64 0, .int .i64 0] := by kernel_rfl
theorem inoC_free (g : Nat) : inoC (Ino.free g) = #[.int .i64 0, .int .i64 g, .int .u64 0, .int .i64 0, .int .i64 0, .int .i64 0, .int .i64 0, .int .i64 0, .int .i64 0, .int .i64 0, .int .i64 0] := rfl
theorem int_beq0 (b : Nat) : (((b : Nat) : Int) == 0) = (b == 0) := by rw [Bool.eq_iff_iff]; simp
set_option maxHeartbeats 1000000 in
set_option maxRecDepth 20000 in
theorem eq_free (x : Ino) (h : x.bl.length = 8) (w : World) : (Op.equalIn 10000 89 (.agg (inoC x)) (.agg (inoC (Ino.free x.gen)))).run Tryz.prog w = .ok (decide (x.kind = 0) && decide (x.ver = 0) && x.bl.all (· == 0)) w := by
  obtain ⟨k, g, v, bl⟩ := x
  obtain ⟨b0, b1, b2, b3, b4, b5, b6, b7, rfl⟩ : ∃ b0 b1 b2 b3 b4 b5 b6 b7, bl = [b0, b1, b2, b3, b4, b5, b6, b7] := by
    match bl, h with
    | [b0, b1, b2, b3, b4, b5, b6, b7], _ => exact ⟨_, _, _, _, _, _, _, _, rfl⟩
  rw [inoC_free]
  have ha : inoC ⟨k, g, v, [b0, b1, b2, b3, b4, b5, b6, b7]⟩ = #[.int .i64 k, .int .i64 g, .int .u64 v, .int .i64 b0, .int .i64 b1, .int .i64 b2, .int .i64 b3, .int .i64 b4, .int .i64 b5, .int .i64 b6, .int .i64 b7] := rfl
  rw [ha, run_equalIn_agg w 9999 89 _ _ (by simp [Program.fieldsOf, Tryz.underlying89]) (by kernel_rfl)]
  obtain ⟨i0, hi0⟩ := info_of_underlying (P := Tryz.prog) Tryz.underlying3
  have hc : Tryz.prog.cellsOf 3 = 1 := by kernel_rfl
  have hpl : Tryz.prog.cellsOf 87 = 8 := by kernel_rfl
  obtain ⟨i1, hi1⟩ := info_of_underlying (P := Tryz.prog) Tryz.underlying87
  have hsz := fun w => run_sizeOf (P := Tryz.prog) w hi1
  simp [Program.fieldsOf, Tryz.underlying89, Op.eqFields, part, isAgg, run_underlying Tryz.underlying3, run_underlying Tryz.underlying30, run_underlying Tryz.underlying87, run_equalIn_int w 9998 _ _ _ _ _ Tryz.underlying3, run_equalIn_int w 9998 _ _ _ _ _ Tryz.underlying30, hsz, hpl, run_equalIn_array w 9998 _ _ Tryz.underlying87 hi0, hc]
  by_cases hk : k = 0
  · by_cases hv : v = 0
    · rw [if_pos hk, if_pos hv, eqItems_all (r := fun i => [b0, b1, b2, b3, b4, b5, b6, b7].getD i 0 == 0) _ fun i hi => ?_, show List.range 8 = [0, 1, 2, 3, 4, 5, 6, 7] from rfl]
      · simp [hk, hv]
        cases (b0 == 0 && (b1 == 0 && (b2 == 0 && (b3 == 0 && (b4 == 0 && (b5 == 0 && (b6 == 0 && b7 == 0))))))) <;> rfl
      · have hi8 : i < 8 := List.mem_range.1 hi
        match i, hi8 with
        | 0, _ => exact ⟨.int .i64 b0, .int .i64 0, part_int Tryz.underlying3 rfl, part_int Tryz.underlying3 rfl, (run_equalIn_int w 9997 _ _ _ _ _ Tryz.underlying3).trans (by simp [int_beq0])⟩
        | 1, _ => exact ⟨.int .i64 b1, .int .i64 0, part_int Tryz.underlying3 rfl, part_int Tryz.underlying3 rfl, (run_equalIn_int w 9997 _ _ _ _ _ Tryz.underlying3).trans (by simp [int_beq0])⟩
        | 2, _ => exact ⟨.int .i64 b2, .int .i64 0, part_int Tryz.underlying3 rfl, part_int Tryz.underlying3 rfl, (run_equalIn_int w 9997 _ _ _ _ _ Tryz.underlying3).trans (by simp [int_beq0])⟩
        | 3, _ => exact ⟨.int .i64 b3, .int .i64 0, part_int Tryz.underlying3 rfl, part_int Tryz.underlying3 rfl, (run_equalIn_int w 9997 _ _ _ _ _ Tryz.underlying3).trans (by simp [int_beq0])⟩
        | 4, _ => exact ⟨.int .i64 b4, .int .i64 0, part_int Tryz.underlying3 rfl, part_int Tryz.underlying3 rfl, (run_equalIn_int w 9997 _ _ _ _ _ Tryz.underlying3).trans (by simp [int_beq0])⟩
        | 5, _ => exact ⟨.int .i64 b5, .int .i64 0, part_int Tryz.underlying3 rfl, part_int Tryz.underlying3 rfl, (run_equalIn_int w 9997 _ _ _ _ _ Tryz.underlying3).trans (by simp [int_beq0])⟩
        | 6, _ => exact ⟨.int .i64 b6, .int .i64 0, part_int Tryz.underlying3 rfl, part_int Tryz.underlying3 rfl, (run_equalIn_int w 9997 _ _ _ _ _ Tryz.underlying3).trans (by simp [int_beq0])⟩
        | 7, _ => exact ⟨.int .i64 b7, .int .i64 0, part_int Tryz.underlying3 rfl, part_int Tryz.underlying3 rfl, (run_equalIn_int w 9997 _ _ _ _ _ Tryz.underlying3).trans (by simp [int_beq0])⟩
    · simp [hk, hv]
  · simp [hk]
theorem uns_any (w : World) (n : Nat) (h : n < 9223372036854775808) : Calls Tryz.prog 90 #[.int .i64 n] w fun e w' => e = .returned (.int .u64 (n : Nat)) ∧ w' = w := by
  go_enter Tryz.func90, Tryz.ntmps90
  go_wp2
  go_ret
  exact ⟨rfl, rfl⟩
set_option maxRecDepth 20000 in
theorem right_any (w : World) (x : Ino) (h : x.bl.length = 8) : Calls Tryz.prog 89 #[.agg (inoC x)] w fun e w' => e = .returned (.bool x.right) ∧ Below w.heap.size w w' := by
  have hL : Lies (w.alloc (.cells (inoC x) 89)) w.heap.size 0 (inoC x) := lies_of heap_alloc_at
  have q0 : (w.alloc (.cells (inoC x) 89)).cell? ⟨w.heap.size, 0, none⟩ = some (.int .i64 x.kind) := cell_of heap_alloc_at (inoC_0 x)
  have q1 : (w.alloc (.cells (inoC x) 89)).cell? ⟨w.heap.size, 1, none⟩ = some (.int .i64 x.gen) := cell_of heap_alloc_at (inoC_1 x)
  have hb : Below w.heap.size w (w.alloc (.cells (inoC x) 89)) := (Below.refl _ _).alloc (Nat.le_refl _) _
  have hag := aggI h
  have heq := eq_free x h
  have hbf := built_free x.gen
  rw [← inoC_free] at hbf
  have hgt : Tryz.prog.eqGuardType Tryz.prog.depth 89 = false := by kernel_rfl
  have HR : Hid (x.right = if x.kind = 1 ∨ x.kind = 2 then true else if x.kind = 0 then decide (x.ver = 0) && x.bl.all (· == 0) else false) := Lib.hid rfl
  obtain ⟨R, hR⟩ : ∃ R, x.right = R := ⟨_, rfl⟩
  rw [hR] at HR ⊢
  clear hR
  obtain ⟨k, g, v, bl⟩ := x
  simp only at *
  by_cases h1 : k = 1
  · have HR2 : R = true := by rw [HR.out, if_pos (.inl h1)]
    subst HR2
    subst h1
    go_enter Tryz.func89, Tryz.ntmps89
    go_wp2
    go_ret
    exact ⟨rfl, hb⟩
  by_cases h2 : k = 2
  · have HR2 : R = true := by rw [HR.out, if_pos (.inr h2)]
    subst HR2
    subst h2
    go_enter Tryz.func89, Tryz.ntmps89
    go_wp2
    go_ret
    exact ⟨rfl, hb⟩
  have d1 : ((k : Int) == 1) = false := beq_eq_false_iff_ne.2 (by omega)
  have d2 : ((k : Int) == 2) = false := beq_eq_false_iff_ne.2 (by omega)
  by_cases h0 : k = 0
  · have HR2 : R = (decide (v = 0) && bl.all (· == 0)) := by rw [HR.out, if_neg (by omega), if_pos h0]
    subst h0
    rw [decide_eq_true (rfl : (0 : Nat) = 0), Bool.true_and, ← HR2] at heq
    clear HR2
    go_enter Tryz.func89, Tryz.ntmps89
    go_wp2_with (first
      | ((with_reducible refine wpList_loadA hag hL ?_ ?_); rfl; go_frame)
      | ((with_reducible refine wpList_exec rfl (exec_buildA (vals := [(1, .int .i64 (g : Nat))]) ?_ hbf) ?_); rfl; go_frame)
      | ((with_reducible refine wpList_exec rfl (exec_eqlS hgt heq ?_ ?_ _) ?_); rfl; rfl; go_frame)
      | fail)
    go_ret
    exact ⟨rfl, hb⟩
  · have HR2 : R = false := by rw [HR.out, if_neg (by omega), if_neg h0]
    subst HR2
    have d0 : ((k : Int) == 0) = false := beq_eq_false_iff_ne.2 (by omega)
    go_enter Tryz.func89, Tryz.ntmps89
    go_wp2
    go_ret
    exact ⟨rfl, hb⟩
end Go.Proofs.YtipbaajdnnddgaaGreat

/- An inode's sector: Encode. -/
namespace Go.Proofs.YtipbaajdnnddgaaGreat
open Go.RowKit Go.Tn Go.Tn.Bt Go.Tn.Ino
theorem zero8 : (Tryz.prog.info? 5).map (fun i => i.zero.map (·.cells)) = some (some #[.int .u8 0]) := by kernel_rfl
theorem en8_0 : en8 0 = [.int .u8 0] := rfl
theorem Lies.places {w : World} {b : Nat} {x : Ino} (h : Lies w b 0 (inoC x)) : Lies w b 3 (plC x.bl) := fun j hj => by
  have hj' : j < x.bl.length := by simpa [plC] using hj
  have h2 := h (3 + j) (by simp [inoC, inoL]; omega)
  rw [Nat.zero_add] at h2
  rw [h2]
  have e1 := inoC_b x (List.getElem?_eq_getElem hj')
  have e2 := plC_get (List.getElem?_eq_getElem hj')
  rw [Array.getElem?_eq_getElem (by simp [inoC, inoL]; omega)] at e1
  rw [Array.getElem?_eq_getElem hj] at e2
  rw [Option.some.inj e1, Option.some.inj e2]
set_option maxRecDepth 20000 in
theorem ienc_no (w : World) (x : Ino) (h : x.bl.length = 8) (hr : x.right = false) : Calls Tryz.prog 70 #[.agg (inoC x)] w fun e w' => e = .returned (.tuple #[.slice none 0 0, .int .i64 2]) ∧ Below w.heap.size w w' := by
  have hL : Lies (w.alloc (.cells (inoC x) 89)) w.heap.size 0 (inoC x) := lies_of heap_alloc_at
  have hb : Below w.heap.size w (w.alloc (.cells (inoC x) 89)) := (Below.refl _ _).alloc (Nat.le_refl _) _
  have hag := aggI h
  have hri := right_any (w.alloc (.cells (inoC x) 89)) x h
  rw [hr] at hri
  go_enter Tryz.func70, Tryz.ntmps70
  go_wp2_with (first
    | ((with_reducible refine wpList_loadA hag hL ?_ ?_); rfl; go_frame)
    | (go_at_call 89; refine hri.mono ?_; rintro e w2 ⟨rfl, hb2⟩; have HB := Lib.hid (hb.trans (hb2.mono hb.size)); clear hb2)
    | fail)
  go_ret2
  exact ⟨rfl, HB.out⟩
set_option maxRecDepth 20000 in
set_option maxHeartbeats 4000000 in
theorem ienc_ok (w : World) (x : Ino) (hf : x.fits) (hr : x.right = true) : Calls Tryz.prog 70 #[.agg (inoC x)] w fun e w' => ∃ v, e = .returned (.tuple #[v, .int .i64 0]) ∧ LOut en8 1 5 w.heap.size w' v x.sec ∧ Below w.heap.size w w' := by
  have h := hf.len
  have hL : Lies (w.alloc (.cells (inoC x) 89)) w.heap.size 0 (inoC x) := lies_of heap_alloc_at
  have hb : Below w.heap.size w (w.alloc (.cells (inoC x) 89)) := (Below.refl _ _).alloc (Nat.le_refl _) _
  have hag := aggI h
  have hap := aggPl h
  have hri := right_any (w.alloc (.cells (inoC x) 89)) x h
  rw [hr] at hri
  have hz1 : (w.alloc (.cells (inoC x) 89)).heap.size = w.heap.size + 1 := by simp
  have HL := Lib.hid hL
  have HB := Lib.hid hb
  have HF := Lib.hid hf
  have HZ := Lib.hid hz1
  have hL0 := hL
  clear hb hf hz1
  go_enter Tryz.func70, Tryz.ntmps70
  go_wp2_with (first
    | ((with_reducible refine wpList_loadA hag hL0 ?_ ?_); rfl; go_frame)
    | (go_at_call 89; refine hri.mono ?_; rintro e w2 ⟨rfl, hb2⟩; have HB2 := Lib.hid hb2; clear hb2)
    | fail)
  have hL2 := HL.out.below' HB2.out (by rw [HZ.out]; exact Nat.lt_succ_self _)
  have hs2 : w.heap.size < w2.heap.size := by have := HB2.out.size; have := HZ.out; omega
  have hb2 := HB.out.trans (HB2.out.mono HB.out.size)
  have q0 : w2.cell? ⟨w.heap.size, 0, none⟩ = some (.int .i64 (x.kind : Nat)) := hL2 0 (by simp [inoC, inoL])
  have q1 : w2.cell? ⟨w.heap.size, 1, none⟩ = some (.int .i64 (x.gen : Nat)) := hL2 1 (by simp [inoC, inoL])
  have q2 : w2.cell? ⟨w.heap.size, 2, none⟩ = some (.int .u64 (x.ver : Nat)) := hL2 2 (by simp [inoC, inoL])
  have hS := And.intro q0 (And.intro q1 q2)
  have HL2 := Lib.hid hL2
  have HB2' := Lib.hid hb2
  clear q0 q1 q2 hL hL0 hri hL2 hb2 HB HB2
  go_upto_region 3 with fail
  refine wp_region_x (fun w' => w'.cell? ⟨w.heap.size, 0, none⟩ = some (.int .i64 (x.kind : Nat)) ∧ w'.cell? ⟨w.heap.size, 1, none⟩ = some (.int .i64 (x.gen : Nat)) ∧ w'.cell? ⟨w.heap.size, 2, none⟩ = some (.int .u64 (x.ver : Nat))) [(1, 1), (2, 0), (5, 1), (6, 0), (9, 1), (10, 0), (0, 2), (3, 2), (4, 2), (7, 2), (8, 2), (11, 2), (12, 1)] (by kernel_rfl) (by kernel_rfl) (by intro d v c a w h; cases d <;> exact h) ?_
  iterate 1 (refine x_take rfl (fun K hK => ?_); go_simp; refine hK _ ?_; clear hK K)
  refine x_read rfl hS (fun w' h => exec_load1 ⟨⟨_, Tryz.underlying3, rfl⟩⟩ rfl h.1) ?_
  iterate 1 (refine x_take rfl (fun K hK => ?_); go_simp; refine hK _ ?_; clear hK K)
  refine x_read rfl hS (fun w' h => exec_load1 ⟨⟨_, Tryz.underlying3, rfl⟩⟩ rfl h.2.1) ?_
  iterate 1 (refine x_take rfl (fun K hK => ?_); go_simp; refine hK _ ?_; clear hK K)
  refine x_read rfl hS (fun w' h => exec_load1 ⟨⟨_, Tryz.underlying30, rfl⟩⟩ rfl h.2.2) ?_
  refine x_show' rfl (fun K hK => ?_)
  go_simp
  refine (bNew_any _).mono ?_
  rintro e w3 ⟨rfl, hW3, hb3⟩
  generalize ha : w2.drew.heap.size = a at *
  have ha2 : w2.heap.size = a := ha
  have hlt : w.heap.size < a := by omega
  have cel : ∀ {wa wb : World} {o : Nat} {v : Value}, Below a wa wb → wa.cell? ⟨w.heap.size, o, none⟩ = some v → wb.cell? ⟨w.heap.size, o, none⟩ = some v := fun hb hc => (hb.cell (p := ⟨w.heap.size, _, none⟩) hlt).trans hc
  have hS3 := And.intro (cel hb3 hS.1) (And.intro (cel hb3 hS.2.1) (cel hb3 hS.2.2))
  refine hK _ _ hS3 ?_
  clear hK K hS
  refine x_show' rfl (fun K hK => ?_)
  go_simp
  refine (uns_any _ x.kind (by have := HF.out.kind; omega)).mono ?_
  rintro e wt ⟨rfl, hw⟩
  obtain rfl := hw.symm
  refine hK _ _ hS3 ?_
  clear hK K hw
  refine x_show' rfl (fun K hK => ?_)
  go_simp
  refine (put_bits w3 a (.slice none 0 0) _ hW3 x.kind 2 (by simp [bitsN_len]) (by decide) HF.out.kind).mono ?_
  rintro e w4 ⟨rfl, v4, hW4, hb4, -⟩
  have hS4 := And.intro (cel hb4 hS3.1) (And.intro (cel hb4 hS3.2.1) (cel hb4 hS3.2.2))
  refine hK _ _ hS4 ?_
  clear hK K
  refine x_show' rfl (fun K hK => ?_)
  go_simp
  refine (uns_any _ x.gen (by have := HF.out.gen; omega)).mono ?_
  rintro e wt ⟨rfl, hw⟩
  obtain rfl := hw.symm
  refine hK _ _ hS4 ?_
  clear hK K hw
  refine x_show' rfl (fun K hK => ?_)
  go_simp
  refine (put_bits w4 a v4 _ hW4 x.gen 31 (by simp [bitsN_len]) (by decide) HF.out.gen).mono ?_
  rintro e w5 ⟨rfl, v5, hW5, hb5, -⟩
  have hS5 := And.intro (cel hb5 hS4.1) (And.intro (cel hb5 hS4.2.1) (cel hb5 hS4.2.2))
  refine hK _ _ hS5 ?_
  clear hK K
  refine x_show' rfl (fun K hK => ?_)
  go_simp
  refine (put_bits w5 a v5 _ hW5 x.ver 40 (by simp [bitsN_len]) (by decide) HF.out.ver).mono ?_
  rintro e w6 ⟨rfl, v6, hW6, hb6, -⟩
  have hS6 := And.intro (cel hb6 hS5.1) (And.intro (cel hb6 hS5.2.1) (cel hb6 hS5.2.2))
  refine hK _ _ hS6 ?_
  clear hK K
  iterate 1 (refine x_take rfl (fun K hK => ?_); go_simp; refine hK _ ?_; clear hK K)
  refine x_nil ?_
  have hb6' : Below w2.heap.size w2 w6 := (((Below.refl _ _).drew).trans (hb3.mono (Nat.le_of_eq ha2))).trans ((hb4.mono (Nat.le_of_eq ha2)).trans ((hb5.mono (Nat.le_of_eq ha2)).trans (hb6.mono (Nat.le_of_eq ha2))))
  have hLP := Lies.places (HL2.out.below' hb6' hs2)
  have HW6 := Lib.hid hW6
  have HB6 := Lib.hid (HB2'.out.trans (hb6'.mono (Nat.le_of_lt hs2)))
  clear hS3 hS4 hS5 hS6 hW3 hW4 hW5 hW6 hb3 hb4 hb5 hb6 hb6' HB2' HL2
  go_wp2_with (first
    | ((with_reducible refine wpList_loadA hap hLP ?_ ?_); rfl; go_frame)
    | fail)
  have HA := Lib.hid (show w.heap.size ≤ a by omega)
  go_loopw [26] (fun iv wi => ∃ k : Nat, k ≤ 8 ∧ iv = .int .i64 k ∧ Below w.heap.size w wi ∧ ∃ u, WrAt wi a u ([] ++ bitsN x.kind 2 ++ bitsN x.gen 31 ++ bitsN x.ver 40 ++ (x.bl.take k).flatMap (bitsN · 12))) (fun iv _ => 8 - (intOf iv).toNat)
  case atStart => exact ⟨0, by omega, rfl, HB6.out, v6, by simpa using HW6.out⟩
  case round =>
    obtain ⟨k, hk, rfl, hbi, u, hW⟩ := hrel
    by_cases hk8 : k < 8
    · have hk8' : (k : Int) < 8 := by omega
      obtain ⟨p, hp⟩ : ∃ p, x.bl[k]? = some p := ⟨_, List.getElem?_eq_getElem (by rw [h]; exact hk8)⟩
      have hpg := plC_get hp
      have hp12 := HF.out.bl p (List.mem_of_getElem? hp)
      have hp63 : (p : Int) < 4096 := by omega
      have hun := uns_any wr p (by omega)
      have hput := put_bits wr a u _ hW p 12 (by simp only [List.length_append, bitsN_len, bflat_len, List.length_nil, List.length_take]; omega) (by decide) hp12
      have hnx : [] ++ bitsN x.kind 2 ++ bitsN x.gen 31 ++ bitsN x.ver 40 ++ (x.bl.take (k + 1)).flatMap (bitsN · 12) = [] ++ bitsN x.kind 2 ++ bitsN x.gen 31 ++ bitsN x.ver 40 ++ (x.bl.take k).flatMap (bitsN · 12) ++ bitsN p 12 := by
        rw [List.take_add_one, hp]; simp
      rw [← hnx] at hput
      have HBI := Lib.hid hbi
      clear hbi hnx hW hp
      go_wp2_with (first
        | ((with_reducible refine wpList_exec rfl (exec_index1 Tryz.underlying87 scalarInt sizeInt (k := .i64) (i := k) ?_ ?_ hk8 hpg) ?_); rfl; rfl; go_frame)
        | (go_at_call 90; refine hun.mono ?_; rintro e wt ⟨rfl, hw⟩; obtain rfl := hw.symm; clear hw)
        | (go_at_call 58; refine hput.mono ?_; rintro e w7 ⟨rfl, v7, hW7, hb7, -⟩; have HW7 := Lib.hid hW7; have HB7 := Lib.hid (HBI.out.trans (hb7.mono HA.out)); clear hW7 hb7)
        | fail)
      go_roundw
      case rel => exact ⟨k + 1, by omega, by go_num, HB7.out, v7, HW7.out⟩
      case measure => simp [intOf]; omega
    · obtain rfl : k = 8 := by omega
      have hall : [] ++ bitsN x.kind 2 ++ bitsN x.gen 31 ++ bitsN x.ver 40 ++ (x.bl.take 8).flatMap (bitsN · 12) = x.bits := by
        rw [List.take_of_length_le (by omega)]
        rfl
      rw [hall] at hW
      have hbl := Ino.bits_len h
      have hdn := done_any wr a u x.bits hW (by omega)
      have HBI := Lib.hid hbi
      have hal : w.heap.size ≤ wr.heap.size := hbi.size
      clear hbi hW hall
      go_wp2_with fail
      refine hdn.mono ?_
      rintro e w8 ⟨v8, rfl, hO8, hb8⟩
      obtain ⟨a8, n8, c8, rfl⟩ := hO8.shape
      have hpl : (pack x.bits).length = 22 := by rw [pack_len, hbl]
      obtain ⟨_, _, hv8, _⟩ := hO8.sl el8.len
      have hn8 : n8 = 22 := by
        simp at hv8
        omega
      subst hn8
      have hO8' := hO8.mono hal
      have hpl1 : (pack x.bits).length + 106 ≤ 100000 := by rw [hpl]; decide
      have HB8 := Lib.hid (HBI.out.trans (hb8.mono HBI.out.size))
      clear hO8 hv8 hb8 hdn
      go_wp2_with (first
        | ((with_reducible refine wpList_appendZ el8 Tryz.underlying3 0 en8_0 zero8 hO8' 106 hpl1 ?_ ?_ ?_); rfl; rfl; (intro v9 w9 hO9 hb9; have HO9 := Lib.hid hO9; have HB9 := Lib.hid (HB8.out.trans hb9); clear hO9 hb9); go_frame)
        | fail)
      go_ret2
      refine ⟨_, rfl, ?_, HB9.out⟩
      have := HO9.out
      unfold Ino.sec sector
      rw [hpl]
      exact this
end Go.Proofs.YtipbaajdnnddgaaGreat

/- Records: plain; Encode. -/
namespace Go.Tn.Ino
open Go.RowKit Go.Tn.Bt
/-- What a server must not forget. -/
structure Rec where
  boot : Nat
  cl : List (Nat × Bool)
structure Rec.fits (x : Rec) : Prop where
  boot : x.boot < 1099511627776
  len : x.cl.length = 8
  cl : ∀ c ∈ x.cl, c.1 < 1099511627776
def Rec.right (x : Rec) : Bool := x.cl.all fun c => !(c.2 && c.1 == 0)
def clBits (c : Nat × Bool) : List Bool := bitsN c.1 40 ++ bitsN c.2.toNat 1
def Rec.bits (x : Rec) : List Bool := bitsN x.boot 40 ++ x.cl.flatMap clBits
def Rec.sec (x : Rec) : List Nat := sector x.bits
theorem cl_len : ∀ l : List (Nat × Bool), (l.flatMap clBits).length = 41 * l.length
  | [] => rfl
  | x :: l => by rw [List.flatMap_cons, List.length_append, clBits, List.length_append, bitsN_len, bitsN_len, cl_len l, List.length_cons]; omega
theorem Rec.bits_len {x : Rec} (h : x.cl.length = 8) : x.bits.length = 368 := by
  unfold Rec.bits
  rw [List.length_append, bitsN_len, cl_len, h]
def recAt (b : List Nat) : Rec := ⟨natOf (((unpack b).drop 0).take 40), (List.range 8).map fun j => (natOf (((unpack b).drop (40 + 41 * j)).take 40), natOf (((unpack b).drop (80 + 41 * j)).take 1) == 1)⟩
def recI (b : List Nat) : Option Rec := if (recAt b).right = true ∧ (recAt b).sec = b then some (recAt b) else none
theorem recAt_fits (b : List Nat) : (recAt b).fits := by
  have h : ∀ (L : List Bool) (k : Nat), natOf (L.take k) < 2 ^ k := fun L k => Nat.lt_of_lt_of_le (natOf_lt _) (Nat.pow_le_pow_right (by decide) (by rw [List.length_take]; exact Nat.min_le_left _ _))
  refine ⟨h _ 40, by simp [recAt], fun p hp => ?_⟩
  unfold recAt at hp
  obtain ⟨j, -, rfl⟩ := List.mem_map.1 hp
  exact h _ 40
end Go.Tn.Ino
namespace Go.Proofs.YtipbaajdnnddgaaGreat
open Go.RowKit Go.Tn Go.Tn.Bt Go.Tn.Ino
def clL (c : Nat × Bool) : List Value := [.int .u64 (c.1 : Nat), .bool c.2]
def recL (x : Rec) : List Value := .int .u64 x.boot :: x.cl.flatMap clL
def recC (x : Rec) : Array Value := (recL x).toArray
def clC (l : List (Nat × Bool)) : Array Value := (l.flatMap clL).toArray
theorem recC_size {x : Rec} (h : x.cl.length = 8) : (recC x).size = 17 := by simp [recC, recL, len_flatMap (en := clL) (k := 2) (fun _ => rfl), h]
theorem clC_size {l : List (Nat × Bool)} (h : l.length = 8) : (clC l).size = 16 := by simp [clC, len_flatMap (en := clL) (k := 2) (fun _ => rfl), h]
theorem recC_0 (x : Rec) : (recC x)[0]? = some (.int .u64 x.boot) := rfl
theorem recL_c (x : Rec) {j : Nat} {c : Nat × Bool} (h : x.cl[j]? = some c) {o : Nat} (ho : o < 2) : (recC x)[1 + (j * 2 + o)]? = (clL c)[o]? := by
  rw [Nat.add_comm 1]
  show (recL x).toArray[j * 2 + o + 1]? = _
  rw [List.getElem?_toArray, recL, List.getElem?_cons_succ, get_flatMap (en := clL) (k := 2) (fun _ => rfl) _ _ _ _ h ho]
theorem clC_get {l : List (Nat × Bool)} {j : Nat} {c : Nat × Bool} (h : l[j]? = some c) {o : Nat} (ho : o < 2) : (clC l)[j * 2 + o]? = (clL c)[o]? := by
  unfold clC
  rw [List.getElem?_toArray, get_flatMap (en := clL) (k := 2) (fun _ => rfl) _ _ _ _ h ho]
theorem clC_ext {l : List (Nat × Bool)} {j : Nat} {c : Nat × Bool} (h : l[j]? = some c) : (clC l).extract (j * 2) (j * 2 + 2) = #[.int .u64 (c.1 : Nat), .bool c.2] := by
  have hlt := (List.getElem?_eq_some_iff.1 h).1
  have hs : (clC l).size = l.length * 2 := by simp [clC, len_flatMap (en := clL) (k := 2) (fun _ => rfl)]
  apply Array.ext_getElem?
  intro i
  rw [Array.getElem?_extract]
  have h0 := clC_get h (o := 0) (by decide)
  have h1 := clC_get h (o := 1) (by decide)
  match i with
  | 0 => rw [if_pos (by omega), h0]; rfl
  | 1 => rw [if_pos (by omega), h1]; rfl
  | i + 2 => rw [if_neg (by omega)]; rfl
theorem recC_one (x : Rec) : (recC x).all (·.oneCell') = true := by
  rw [Array.all_eq_true']
  intro u hu
  simp only [recC, List.mem_toArray, recL] at hu
  rcases List.mem_cons.1 hu with rfl | hu
  · rfl
  · obtain ⟨c, -, hc⟩ := List.mem_flatMap.1 hu
    simp only [clL, List.mem_cons, List.not_mem_nil, or_false] at hc
    rcases hc with rfl | rfl <;> rfl
theorem aggR {x : Rec} (h : x.cl.length = 8) : AggT Tryz.prog 35 (recC x).size := ⟨⟨_, Tryz.underlying35, rfl⟩, by rw [recC_size h]; kernel_rfl⟩
theorem aggCl {l : List (Nat × Bool)} (h : l.length = 8) : AggT Tryz.prog 33 (clC l).size := ⟨⟨_, Tryz.underlying33, rfl⟩, by rw [clC_size h]; kernel_rfl⟩
theorem aggC1 : AggT Tryz.prog 32 2 := ⟨⟨_, Tryz.underlying32, rfl⟩, by kernel_rfl⟩
theorem Lies.clients {w : World} {b : Nat} {x : Rec} (h : Lies w b 0 (recC x)) : Lies w b 1 (clC x.cl) := fun j hj => by
  have h2 := h (1 + j) (by
    show 1 + j < (x.cl.flatMap clL).length + 1
    have hj' : j < (x.cl.flatMap clL).length := hj
    omega)
  rw [Nat.zero_add] at h2
  rw [h2]
  simp [recC, recL, clC, Nat.add_comm 1 j]
theorem flag_any (w : World) (b : Bool) : Calls Tryz.prog 59 #[.bool b] w fun e w' => e = .returned (.int .u64 (b.toNat : Nat)) ∧ w' = w := by
  go_enter Tryz.func59, Tryz.ntmps59
  cases b
  all_goals
    go_wp2
    go_ret
    exact ⟨rfl, rfl⟩
end Go.Proofs.YtipbaajdnnddgaaGreat

/- A record's sector: Encode. -/
namespace Go.Proofs.YtipbaajdnnddgaaGreat
open Go.RowKit Go.Tn Go.Tn.Bt Go.Tn.Ino
/-- What Encode answers. -/
def eencP (r : Bool) (B : Nat) (sec : List Nat) (e : Ending) (w' : World) : Prop := if r = true then ∃ v, e = .returned (.tuple #[v, .int .i64 0]) ∧ LOut en8 1 5 B w' v sec else e = .returned (.tuple #[.slice none 0 0, .int .i64 2])
set_option maxRecDepth 20000 in
set_option maxHeartbeats 4000000 in
/-- The clients, one by one: all are right, or one is wrong. -/
theorem eenc_any (w : World) (x : Rec) (hf : x.fits) : Calls Tryz.prog 38 #[.agg (recC x)] w fun e w' =>
    eencP x.right w.heap.size x.sec e w' ∧ Below w.heap.size w w' := by
  have h := hf.len
  have hb : Below w.heap.size w (w.alloc (.cells (recC x) 35)) := (Below.refl _ _).alloc (Nat.le_refl _) _
  have hL : Lies (w.alloc (.cells (recC x) 35)) w.heap.size 0 (recC x) := lies_of heap_alloc_at
  have hap := aggCl h
  have hz1 : (w.alloc (.cells (recC x) 35)).heap.size = w.heap.size + 1 := by simp
  generalize hw1 : w.alloc (.cells (recC x) 35) = w1 at hb hL hz1
  have q0 : w1.cell? ⟨w.heap.size, 0, none⟩ = some (.int .u64 (x.boot : Nat)) := hL 0 (by simp [recC, recL])
  have hs1 : w.heap.size < w1.heap.size := by omega
  have HL := Lib.hid hL
  have HB := Lib.hid hb
  have HF := Lib.hid hf
  clear hb hL hf hz1
  go_enter Tryz.func38, Tryz.ntmps38
  go_upto_region 1 with fail
  clear hw1
  have hS : w1.drew.cell? ⟨w.heap.size, 0, none⟩ = some (.int .u64 (x.boot : Nat)) := q0
  refine wp_region_x (fun w' => w'.cell? ⟨w.heap.size, 0, none⟩ = some (.int .u64 (x.boot : Nat))) [(1, 1), (2, 0), (0, 2), (3, 2), (4, 1)] (by kernel_rfl) (by kernel_rfl) (by intro d v c a w h; cases d <;> exact h) ?_
  iterate 1 (refine x_take rfl (fun K hK => ?_); go_simp; refine hK _ ?_; clear hK K)
  refine x_read rfl hS (fun w' h => exec_load1 ⟨⟨_, Tryz.underlying30, rfl⟩⟩ rfl h) ?_
  refine x_show' rfl (fun K hK => ?_)
  go_simp
  refine (bNew_any _).mono ?_
  rintro e w3 ⟨rfl, hW3, hb3⟩
  generalize ha : w1.drew.heap.size = a at *
  have ha2 : w1.heap.size = a := ha
  have hlt : w.heap.size < a := by omega
  have cel : ∀ {wa wb : World} {o : Nat} {v : Value}, Below a wa wb → wa.cell? ⟨w.heap.size, o, none⟩ = some v → wb.cell? ⟨w.heap.size, o, none⟩ = some v := fun hb hc => (hb.cell (p := ⟨w.heap.size, _, none⟩) hlt).trans hc
  have hS3 := cel hb3 hS
  refine hK _ _ hS3 ?_
  clear hK K hS
  refine x_show' rfl (fun K hK => ?_)
  go_simp
  refine (put_bits w3 a (.slice none 0 0) _ hW3 x.boot 40 (by simp) (by decide) HF.out.boot).mono ?_
  rintro e w4 ⟨rfl, v4, hW4, hb4, -⟩
  refine hK _ _ (cel hb4 hS3) ?_
  clear hK K
  iterate 1 (refine x_take rfl (fun K hK => ?_); go_simp; refine hK _ ?_; clear hK K)
  refine x_nil ?_
  have hb4' : Below w1.heap.size w1 w4 := (((Below.refl _ _).drew).trans (hb3.mono (Nat.le_of_eq ha2))).trans (hb4.mono (Nat.le_of_eq ha2))
  have hLP := Lies.clients (HL.out.below' hb4' hs1)
  have HW4 := Lib.hid hW4
  have HB4 := Lib.hid (HB.out.trans (hb4'.mono (Nat.le_of_lt hs1)))
  have HA := Lib.hid (show w.heap.size ≤ a by omega)
  clear hS3 hW3 hW4 hb3 hb4 hb4' HL q0
  go_wp2_with (first
    | ((with_reducible refine wpList_loadA hap hLP ?_ ?_); rfl; go_frame)
    | fail)
  go_loopw [15] (fun iv wi => ∃ k : Nat, k ≤ 8 ∧ iv = .int .i64 k ∧ (∀ c ∈ x.cl.take k, (!(c.2 && c.1 == 0)) = true) ∧ Below w.heap.size w wi ∧ ∃ u, WrAt wi a u ([] ++ bitsN x.boot 40 ++ (x.cl.take k).flatMap clBits)) (fun iv _ => 8 - (intOf iv).toNat)
  case atStart => exact ⟨0, by omega, rfl, by simp, HB4.out, v4, by simpa using HW4.out⟩
  case round =>
    obtain ⟨k, hk, rfl, hri, hbi, u, hW⟩ := hrel
    by_cases hk8 : k < 8
    · have hk8' : (k : Int) < 8 := by omega
      obtain ⟨⟨s, ho⟩, hp⟩ : ∃ p, x.cl[k]? = some p := ⟨_, List.getElem?_eq_getElem (by rw [h]; exact hk8)⟩
      have hpg := clC_ext hp
      have hp40 : s < 1099511627776 := HF.out.cl (s, ho) (List.mem_of_getElem? hp)
      have htk : x.cl.take (k + 1) = x.cl.take k ++ [(s, ho)] := by rw [List.take_add_one, hp]; rfl
      have hbx : Below wr.heap.size wr (wr.alloc (.cells #[.int .u64 (s : Nat), .bool ho] 32)) := (Below.refl _ _).alloc (Nat.le_refl _) _
      have hcx : (wr.alloc (.cells #[.int .u64 (s : Nat), .bool ho] 32)).heap[wr.heap.size]? = some (.cells #[.int .u64 (s : Nat), .bool ho] 32 (0, 0)) := heap_alloc_at
      have hWx := hW.below hbx
      have hzx : (wr.alloc (.cells #[.int .u64 (s : Nat), .bool ho] 32)).heap.size = wr.heap.size + 1 := by simp
      have hown : ∀ r, r = a ∨ u.ownBlock = some r → ¬ r = wr.heap.size := fun r hr e => by have := hW.own_lt hr; omega
      have HRI := Lib.hid hri
      have HBI := Lib.hid hbi
      have HTK := Lib.hid htk
      have HP := Lib.hid hp
      have HOWN := Lib.hid hown
      have HWX := Lib.hid hWx
      have HCX := Lib.hid hcx
      have HBX := Lib.hid hbx
      clear hri hbi hW htk hp hown hWx hbx
      have hq0 : (wr.alloc (.cells #[.int .u64 (s : Nat), .bool ho] 32)).cell? ⟨wr.heap.size, 0, none⟩ = some (.int .u64 (s : Nat)) := cell_of hcx rfl
      have hq1 : (wr.alloc (.cells #[.int .u64 (s : Nat), .bool ho] 32)).cell? ⟨wr.heap.size, 1, none⟩ = some (.bool ho) := cell_of hcx rfl
      have HZX := Lib.hid hzx
      clear hcx hzx
      go_upto_region 5 with (first
        | ((with_reducible refine wpList_exec rfl (exec_indexA (k := .i64) (i := k) Tryz.underlying33 aggC1 hk8 hpg ?_ ?_) ?_); rfl; rfl; go_frame)
        | fail)
      generalize hwx : wr.alloc (.cells #[.int .u64 (s : Nat), .bool ho] 32) = wx at *
      clear hwx hpg
      by_cases hbad : (ho && s == 0) = true
      · have hri : x.right = false := by
          unfold Rec.right
          rw [List.all_eq_false]
          exact ⟨(s, ho), List.mem_of_getElem? HP.out, by rw [hbad]; decide⟩
        have HRT := Lib.hid hri
        obtain ⟨rfl, rfl⟩ : ho = true ∧ s = 0 := by simpa using hbad
        clear hri hbad
        rw [Int.natCast_zero] at *
        go_wp2
        go_ret2
        refine ⟨?_, ?_⟩
        · unfold eencP
          rw [HRT.out, if_neg (by decide)]
          rfl
        exact HBI.out.trans (HBX.out.mono HBI.out.size)
      · have hgood : (!(ho && s == 0)) = true := by
          cases h9 : (ho && s == 0)
          · rfl
          · exact absurd h9 hbad
        have HGD := Lib.hid hgood
        have hnx : [] ++ bitsN x.boot 40 ++ (x.cl.take (k + 1)).flatMap clBits = [] ++ bitsN x.boot 40 ++ (x.cl.take k).flatMap clBits ++ bitsN s 40 ++ bitsN ho.toNat 1 := by
          rw [HTK.out, List.flatMap_append, List.flatMap_singleton, clBits]
          simp
        have HNX := Lib.hid hnx
        have hlen : ([] ++ bitsN x.boot 40 ++ (x.cl.take k).flatMap clBits).length = 40 + 41 * k := by
          rw [List.nil_append, List.length_append, bitsN_len, cl_len, List.length_take, h, Nat.min_eq_left (by omega)]
        have HLEN := Lib.hid hlen
        have hS : wx.cell? ⟨wr.heap.size, 0, none⟩ = some (.int .u64 (s : Nat)) ∧ wx.cell? ⟨wr.heap.size, 1, none⟩ = some (.bool ho) := ⟨hq0, hq1⟩
        have hb1 : ho.toNat < 2 := by cases ho <;> decide
        have hsn : ho = true → s ≠ 0 := fun e e' => hbad (by rw [e, e']; rfl)
        have HB1 := Lib.hid hb1
        have HSN := Lib.hid hsn
        clear hgood hnx hlen hb1 hbad hsn
        cases ho with
        | false =>
          go_upto_region 7 with fail
          refine wp_region_x (fun w' => w'.cell? ⟨wr.heap.size, 0, none⟩ = some (.int .u64 (s : Nat)) ∧ w'.cell? ⟨wr.heap.size, 1, none⟩ = some (.bool false)) [(0, 1), (1, 1), (2, 0), (4, 1), (5, 0), (3, 2), (6, 2), (7, 2)] (by kernel_rfl) (by kernel_rfl) (by intro d v c a w h; cases d <;> exact h) ?_
          iterate 2 (refine x_take rfl (fun K hK => ?_); go_simp; refine hK _ ?_; clear hK K)
          refine x_read rfl hS (fun w' h => exec_load1 ⟨⟨_, Tryz.underlying30, rfl⟩⟩ rfl h.1) ?_
          iterate 1 (refine x_take rfl (fun K hK => ?_); go_simp; refine hK _ ?_; clear hK K)
          refine x_read rfl hS (fun w' h => exec_load1 ⟨⟨_, Tryz.underlying4, rfl⟩⟩ rfl h.2) ?_
          refine x_show' rfl (fun K hK => ?_)
          go_simp
          refine (put_bits _ a u _ (HWX.out.below (Below.refl _ _).drew) s 40 (by rw [HLEN.out]; omega) (by decide) hp40).mono ?_
          rintro e w5 ⟨rfl, v5, hW5, hb5, hm5⟩
          have o5 : ¬ (fun b => b = a ∨ u.ownBlock = some b) wr.heap.size := fun h => HOWN.out _ h rfl
          obtain ⟨hSa, hSb⟩ := hS
          have m5 := hm5.mod
          have hSa5 := cell_mod (show wx.drew.cell? _ = _ from hSa) m5 o5
          have hSb5 := cell_mod (show wx.drew.cell? _ = _ from hSb) m5 o5
          clear m5
          have hS5 := And.intro hSa5 hSb5
          refine hK _ _ hS5 ?_
          clear hK K hSa hSb
          refine x_show' rfl (fun K hK => ?_)
          go_simp
          refine (flag_any _ false).mono ?_
          rintro e wt ⟨rfl, hw⟩
          obtain rfl := hw.symm
          refine hK _ _ hS5 ?_
          clear hK K hw
          refine x_show' rfl (fun K hK => ?_)
          go_simp
          refine (put_bits _ a v5 _ hW5 (Bool.toNat false) 1 (by rw [List.length_append, HLEN.out, bitsN_len]; omega) (by decide) HB1.out).mono ?_
          rintro e w7 ⟨rfl, v7, hW7, hb7, hm7⟩
          have hwn5 : ∀ r, r = a ∨ v5.ownBlock = some r → ¬ r = wr.heap.size := fun r hr e => by
            rcases hr with hr | hr
            · exact HOWN.out r (.inl hr) e
            · rcases hm5.own with h5 | ⟨r5, h5, h6⟩
              · exact HOWN.out r (.inr (h5 ▸ hr)) e
              · rw [h5] at hr
                cases hr
                have h6 : wx.heap.size ≤ r := h6
                have := HZX.out
                omega
          have o7 : ¬ (fun b => b = a ∨ v5.ownBlock = some b) wr.heap.size := fun h => hwn5 _ h rfl
          have m7 := hm7.mod
          have hSa7 := cell_mod hSa5 m7 o7
          have hSb7 := cell_mod hSb5 m7 o7
          clear m7
          have hS7 := And.intro hSa7 hSb7
          refine hK _ _ hS7 ?_
          clear hK K hS5 hS7 hSa5 hSb5 hSa7 hSb7
          refine x_nil ?_
          rw [← HNX.out] at hW7
          have HW7 := Lib.hid hW7
          have HB7 := Lib.hid (HBI.out.trans ((HBX.out.mono HBI.out.size).trans (((Below.refl _ _).drew).trans ((hb5.mono HA.out).trans (hb7.mono HA.out)))))
          clear hW5 hb5 hm5 hW7 hb7 hm7 hwn5 o5 o7
          go_wp2
          go_roundw
          case rel => exact ⟨k + 1, by omega, by go_num, by rw [HTK.out]; intro c hc; rcases List.mem_append.1 hc with hc | hc; exact HRI.out c hc; rw [List.mem_singleton.1 hc]; exact HGD.out, HB7.out, v7, HW7.out⟩
          case measure => simp [intOf]; omega
        | true =>
          have hs0 : ((s : Int) == 0) = false := beq_eq_false_iff_ne.2 (by have := HSN.out rfl; omega)
          go_upto_region 7 with fail
          refine wp_region_x (fun w' => w'.cell? ⟨wr.heap.size, 0, none⟩ = some (.int .u64 (s : Nat)) ∧ w'.cell? ⟨wr.heap.size, 1, none⟩ = some (.bool true)) [(0, 1), (1, 1), (2, 0), (4, 1), (5, 0), (3, 2), (6, 2), (7, 2)] (by kernel_rfl) (by kernel_rfl) (by intro d v c a w h; cases d <;> exact h) ?_
          iterate 2 (refine x_take rfl (fun K hK => ?_); go_simp; refine hK _ ?_; clear hK K)
          refine x_read rfl hS (fun w' h => exec_load1 ⟨⟨_, Tryz.underlying30, rfl⟩⟩ rfl h.1) ?_
          iterate 1 (refine x_take rfl (fun K hK => ?_); go_simp; refine hK _ ?_; clear hK K)
          refine x_read rfl hS (fun w' h => exec_load1 ⟨⟨_, Tryz.underlying4, rfl⟩⟩ rfl h.2) ?_
          refine x_show' rfl (fun K hK => ?_)
          go_simp
          refine (put_bits _ a u _ (HWX.out.below (Below.refl _ _).drew) s 40 (by rw [HLEN.out]; omega) (by decide) hp40).mono ?_
          rintro e w5 ⟨rfl, v5, hW5, hb5, hm5⟩
          have o5 : ¬ (fun b => b = a ∨ u.ownBlock = some b) wr.heap.size := fun h => HOWN.out _ h rfl
          obtain ⟨hSa, hSb⟩ := hS
          have m5 := hm5.mod
          have hSa5 := cell_mod (show wx.drew.cell? _ = _ from hSa) m5 o5
          have hSb5 := cell_mod (show wx.drew.cell? _ = _ from hSb) m5 o5
          clear m5
          have hS5 := And.intro hSa5 hSb5
          refine hK _ _ hS5 ?_
          clear hK K hSa hSb
          refine x_show' rfl (fun K hK => ?_)
          go_simp
          refine (flag_any _ true).mono ?_
          rintro e wt ⟨rfl, hw⟩
          obtain rfl := hw.symm
          refine hK _ _ hS5 ?_
          clear hK K hw
          refine x_show' rfl (fun K hK => ?_)
          go_simp
          refine (put_bits _ a v5 _ hW5 (Bool.toNat true) 1 (by rw [List.length_append, HLEN.out, bitsN_len]; omega) (by decide) HB1.out).mono ?_
          rintro e w7 ⟨rfl, v7, hW7, hb7, hm7⟩
          have hwn5 : ∀ r, r = a ∨ v5.ownBlock = some r → ¬ r = wr.heap.size := fun r hr e => by
            rcases hr with hr | hr
            · exact HOWN.out r (.inl hr) e
            · rcases hm5.own with h5 | ⟨r5, h5, h6⟩
              · exact HOWN.out r (.inr (h5 ▸ hr)) e
              · rw [h5] at hr
                cases hr
                have h6 : wx.heap.size ≤ r := h6
                have := HZX.out
                omega
          have o7 : ¬ (fun b => b = a ∨ v5.ownBlock = some b) wr.heap.size := fun h => hwn5 _ h rfl
          have m7 := hm7.mod
          have hSa7 := cell_mod hSa5 m7 o7
          have hSb7 := cell_mod hSb5 m7 o7
          clear m7
          have hS7 := And.intro hSa7 hSb7
          refine hK _ _ hS7 ?_
          clear hK K hS5 hS7 hSa5 hSb5 hSa7 hSb7
          refine x_nil ?_
          rw [← HNX.out] at hW7
          have HW7 := Lib.hid hW7
          have HB7 := Lib.hid (HBI.out.trans ((HBX.out.mono HBI.out.size).trans (((Below.refl _ _).drew).trans ((hb5.mono HA.out).trans (hb7.mono HA.out)))))
          clear hW5 hb5 hm5 hW7 hb7 hm7 hwn5 o5 o7
          go_wp2
          go_roundw
          case rel => exact ⟨k + 1, by omega, by go_num, by rw [HTK.out]; intro c hc; rcases List.mem_append.1 hc with hc | hc; exact HRI.out c hc; rw [List.mem_singleton.1 hc]; exact HGD.out, HB7.out, v7, HW7.out⟩
          case measure => simp [intOf]; omega
    · obtain rfl : k = 8 := by omega
      have hri' : x.right = true := by
        unfold Rec.right
        rw [List.all_eq_true]
        rw [List.take_of_length_le (by omega)] at hri
        exact hri
      have hall : [] ++ bitsN x.boot 40 ++ (x.cl.take 8).flatMap clBits = x.bits := by
        rw [List.take_of_length_le (by omega)]
        rfl
      rw [hall] at hW
      have hbl := Rec.bits_len h
      have hdn := done_any wr a u x.bits hW (by omega)
      have HBI := Lib.hid hbi
      have HRT := Lib.hid hri'
      have hal : w.heap.size ≤ wr.heap.size := hbi.size
      clear hbi hW hall hri hri'
      go_wp2_with fail
      refine hdn.mono ?_
      rintro e w8 ⟨v8, rfl, hO8, hb8⟩
      obtain ⟨a8, n8, c8, rfl⟩ := hO8.shape
      have hpl : (pack x.bits).length = 46 := by rw [pack_len, hbl]
      obtain ⟨_, _, hv8, _⟩ := hO8.sl el8.len
      have hn8 : n8 = 46 := by
        simp at hv8
        omega
      subst hn8
      have hO8' := hO8.mono hal
      have hpl1 : (pack x.bits).length + 82 ≤ 100000 := by rw [hpl]; decide
      have HB8 := Lib.hid (HBI.out.trans (hb8.mono HBI.out.size))
      clear hO8 hv8 hb8 hdn
      go_wp2_with (first
        | ((with_reducible refine wpList_appendZ el8 Tryz.underlying3 0 en8_0 zero8 hO8' 82 hpl1 ?_ ?_ ?_); rfl; rfl; (intro v9 w9 hO9 hb9; have HO9 := Lib.hid hO9; have HB9 := Lib.hid (HB8.out.trans hb9); clear hO9 hb9); go_frame)
        | fail)
      go_ret2
      refine ⟨?_, HB9.out⟩
      unfold eencP
      rw [HRT.out, if_pos rfl]
      refine ⟨_, rfl, ?_⟩
      have := HO9.out
      unfold Rec.sec sector
      rw [hpl]
      exact this
end Go.Proofs.YtipbaajdnnddgaaGreat
