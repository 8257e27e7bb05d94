/- The map of homes in memory; its smallest functions. -/
import Derived.Test.YtipbaajdnnddgaaGreatMgVlj23
import Derived.Test.YtipbaajdnnddgaaGreatMgVlj9
import Derived.Test.YtipbaajdnnddgaaGreatMgVlj10
import Derived.Test.YtipbaajdnnddgaaGreatRows
import Derived.Test.YtipbaajdnnddgaaGreatMgVlj4
import Derived.Test.YtipbaajdnnddgaaGreatMgVlj6
import Derived.BigQuiet
/- An inode's sector: Decode. -/
namespace Go.Proofs.YtipbaajdnnddgaaGreat
open Go.RowKit Go.Tn Go.Tn.Bt Go.Tn.Ino
def decI : Option Ino → Value
  | some x => .tuple #[.agg (inoC x), .int .i64 0]
  | none => .tuple #[.agg (inoC (Ino.free 0)), .int .i64 4]
theorem built_zero : Tryz.prog.built 89 [] = some (inoC (Ino.free 0)) := by kernel_rfl
theorem built_3 (k g v : Int) : Tryz.prog.built 89 [(0, .int .i64 k), (1, .int .i64 g), (2, .int .u64 v)] = some #[.int .i64 k, .int .i64 g, .int .u64 v, .int .i64 0, .int .i64 0, .int .i64 0, .int .i64 0, .int .i64 0, .int .i64 0, .int .i64 0, .int .i64 0] := by kernel_rfl
def ino0 (k g v : Nat) : Ino := ⟨k, g, v, [0, 0, 0, 0, 0, 0, 0, 0]⟩
theorem inoC_0z (k g v : Nat) : inoC (ino0 k g v) = #[.int .i64 k, .int .i64 g, .int .u64 v, .int .i64 0, .int .i64 0, .int .i64 0, .int .i64 0, .int .i64 0, .int .i64 0, .int .i64 0, .int .i64 0] := rfl
theorem inoC_set (x : Ino) (i p : Nat) : (inoC x).setIfInBounds (3 + i) (.int .i64 p) = inoC { x with bl := x.bl.set i p } := by
  apply Array.ext'
  simp [inoC, inoL, Nat.add_comm 3 i, List.map_set]
/-- The first i places are read. -/
def partBl (L : List Nat) (i : Nat) : List Nat := L.take i ++ List.replicate (8 - i) 0
theorem partBl_len {L : List Nat} (h : L.length = 8) {i : Nat} (hi : i ≤ 8) : (partBl L i).length = 8 := by
  unfold partBl
  rw [List.length_append, List.length_take, List.length_replicate, h]
  omega
theorem partBl_set {L : List Nat} (h : L.length = 8) {i p : Nat} (hp : L[i]? = some p) : (partBl L i).set i p = partBl L (i + 1) := by
  have hi : i < 8 := by have := (List.getElem?_eq_some_iff.1 hp).1; omega
  unfold partBl
  rw [List.set_append_right _ _ (by rw [List.length_take]; omega), List.length_take, h, Nat.min_eq_left (by omega), Nat.sub_self, show 8 - i = (8 - (i + 1)) + 1 by omega, List.replicate_succ, List.set_cons_zero, List.take_add_one, hp]
  simp
theorem partBl_all {L : List Nat} (h : L.length = 8) : partBl L 8 = L := by
  unfold partBl
  rw [List.take_of_length_le (by omega)]
  simp
theorem lt_natOf (L : List Bool) (k : Nat) : natOf (L.take k) < 2 ^ k := Nat.lt_of_lt_of_le (natOf_lt _) (Nat.pow_le_pow_right (by decide) (by rw [List.length_take]; exact Nat.min_le_left _ _))
set_option maxRecDepth 20000 in
set_option maxHeartbeats 4000000 in
theorem idec_any (w : World) (v : Value) (B : List Nat) (hv : LSl en8 1 w v B) (hl : B.length = 128) (hB : ∀ x ∈ B, x < 256) : Calls Tryz.prog 45 #[v] w
    fun e w' => e = .returned (decI (inoOf B)) ∧ Below w.heap.size w w' := by
  have hbz : (w.alloc (.cells (inoC (Ino.free 0)) 89)).heap[w.heap.size]? = some (.cells (inoC (Ino.free 0)) 89 (0, 0)) := heap_alloc_at
  have hb1 : Below w.heap.size w (w.alloc (.cells (inoC (Ino.free 0)) 89)) := (Below.refl _ _).alloc (Nat.le_refl _) _
  have hz1 : (w.alloc (.cells (inoC (Ino.free 0)) 89)).heap.size = w.heap.size + 1 := by simp
  have hv1 := hv.below hb1
  have hop := ropen_any (w.alloc (.cells (inoC (Ino.free 0)) 89)) v B hv1 hB (by omega)
  obtain ⟨ao, ca, rfl, -⟩ := hv
  generalize hw1 : w.alloc (.cells (inoC (Ino.free 0)) 89) = w1 at hbz hb1 hz1 hv1 hop
  have HV1 := Lib.hid hv1
  have HB1 := Lib.hid hb1
  have HBZ := Lib.hid hbz
  have HZ1 := Lib.hid hz1
  have HB8 := Lib.hid hB
  have HL := Lib.hid hl
  clear hb1 hbz hz1 hv1 hB hl
  rw [inoC_free] at hw1
  go_enter Tryz.func45, Tryz.ntmps45
  go_upto_region 1 with fail
  simp only [hw1, Int.natCast_zero] at *
  clear hw1
  obtain ⟨k, hk⟩ : ∃ k, natOf (((unpack B).drop 0).take 2) = k := ⟨_, rfl⟩
  obtain ⟨g, hg⟩ : ∃ g, natOf (((unpack B).drop 2).take 31) = g := ⟨_, rfl⟩
  obtain ⟨vr, hvr⟩ : ∃ g, natOf (((unpack B).drop 33).take 40) = g := ⟨_, rfl⟩
  obtain ⟨L, hL⟩ : ∃ L, ((List.range 8).map fun j => natOf (((unpack B).drop (73 + 12 * j)).take 12)) = L := ⟨_, rfl⟩
  have hx : inoAt B = ⟨k, g, vr, L⟩ := by rw [← hk, ← hg, ← hvr, ← hL]; rfl
  have hfit := inoAt_fits B
  rw [hx] at hfit
  have hLj : ∀ j, j < 8 → L[j]? = some (natOf (((unpack B).drop (73 + 12 * j)).take 12)) := fun j hj => by rw [← hL]; simp [hj]
  have hk4 : k < 4 := hfit.kind
  have hg31 : g < 2147483648 := hfit.gen
  have hv40 : vr < 1099511627776 := hfit.ver
  have HX := Lib.hid hx
  have HF := Lib.hid hfit
  have HLJ := Lib.hid hLj
  have HK := Lib.hid hk
  have HG := Lib.hid hg
  have HVR := Lib.hid hvr
  clear hL hx hfit hLj hk hg hvr
  go_wp2_with fail
  refine hop.mono ?_
  rintro e w2 ⟨a, v2, rfl, hR2, ha2, hv2, hb2⟩
  have hg2 := get_ok hR2 2 (by decide) (by rw [HL.out]; decide)
  rw [HK.out] at hg2
  have HA := Lib.hid ha2
  have HV2 := Lib.hid hv2
  have HB2 := Lib.hid hb2
  clear hop hR2 ha2 hv2 hb2
  go_wp2_with fail
  refine hg2.mono ?_
  rintro e w3 ⟨rfl, hR3, hm3⟩
  have hg3 := get_ok hR3 31 (by decide) (by rw [HL.out]; decide)
  rw [show 0 + 2 = 2 from rfl, HG.out] at hg3
  have HM3 := Lib.hid hm3
  clear hg2 hR3 hm3
  go_wp2_with fail
  refine hg3.mono ?_
  rintro e w4 ⟨rfl, hR4, hm4⟩
  have hg4 := get_ok hR4 40 (by decide) (by rw [HL.out]; decide)
  rw [show 2 + 31 = 33 from rfl, HVR.out] at hg4
  have HM4 := Lib.hid hm4
  clear hg3 hR4 hm4
  go_wp2_with fail
  refine hg4.mono ?_
  rintro e w5 ⟨rfl, hR5, hm5⟩
  have hw5 : Below w1.heap.size w1 w5 := HB2.out.trans (((HM3.out.trans HM4.out (fun x h => h) (fun x _ h => h)).trans hm5 (fun x h => h) (fun x _ h => h)).below HB2.out.size fun x hx e => by have := HA.out; omega)
  have hsz5 := hw5.size
  have HR5 := Lib.hid hR5
  have HW5 := Lib.hid hw5
  clear hg4 hR5 hm5 hw5
  have hb3 := built_3 k g vr
  rw [← inoC_0z] at hb3
  have hone := inoC_one (ino0 k g vr)
  have hag : ∀ x : Ino, x.bl.length = 8 → AggT Tryz.prog 89 (inoC x).size := fun x h => aggI h
  have hsz11 : (inoC (ino0 k g vr)).size = 11 := inoC_size rfl
  have hag0 := hag (ino0 k g vr) rfl
  go_wp2_with (first
    | ((with_reducible refine wpList_exec rfl (exec_buildA (vals := [(0, .int .i64 (k : Nat)), (1, .int .i64 (g : Nat)), (2, .int .u64 (vr : Nat))]) ?_ hb3) ?_); rfl; go_frame)
    | ((with_reducible refine wpList_storeA_new hag0 ?_ hone ?_ ?_ ?_); (rw [hsz11]; rfl); rfl; rfl; go_frame)
    | fail)
  have hbk : (w5.alloc (.cells (inoC (ino0 k g vr)) 89)).heap[w5.heap.size]? = some (.cells (inoC (ino0 k g vr)) 89 (0, 0)) := heap_alloc_at
  have hba : Below w5.heap.size w5 (w5.alloc (.cells (inoC (ino0 k g vr)) 89)) := (Below.refl _ _).alloc (Nat.le_refl _) _
  have hR0 := HR5.out.below hba
  have haw : a < w5.heap.size := lt_of_block HR5.out.blk
  have hvw : ∀ r, v2.ownBlock = some r → r < w5.heap.size := fun r hr => HR5.out.bs.lt hr
  have hb0 := HW5.out.trans (hba.mono hsz5)
  have HBK := Lib.hid hbk
  have HR0 := Lib.hid hR0
  have HB0 := Lib.hid hb0
  have HVW := Lib.hid hvw
  clear hbk hba hR0 hb0 hvw HM3 HM4 HK HG HVR hb3 hag0 hone hsz11
  go_loopw [20] (fun iv wi => ∃ i : Nat, i ≤ 8 ∧ iv = .int .i64 i ∧ wi.heap[w5.heap.size]? = some (.cells (inoC ⟨k, g, vr, partBl L i⟩) 89 (0, 0)) ∧ RdAt wi a v2 B (73 + 12 * i) 0 ∧ Below w1.heap.size w1 wi) (fun iv _ => 8 - (intOf iv).toNat)
  case atStart => exact ⟨0, by omega, rfl, HBK.out, HR0.out, HB0.out⟩
  case round =>
    obtain ⟨i, hi, rfl, hbi, hRi, hBi⟩ := hrel
    by_cases hi8 : i < 8
    · have hi8' : (i : Int) < 8 := by omega
      obtain ⟨p, hp⟩ : ∃ p, natOf (((unpack B).drop (73 + 12 * i)).take 12) = p := ⟨_, rfl⟩
      have hLp := HLJ.out i hi8
      rw [hp] at hLp
      have hp12 : p < 4096 := HF.out.bl p (List.mem_of_getElem? hLp)
      have hget := get_ok hRi 12 (by decide) (by rw [HL.out]; omega)
      rw [hp] at hget
      have HLP := Lib.hid hLp
      have HBI := Lib.hid hbi
      have HBB := Lib.hid hBi
      clear hp hLp hRi hbi hBi
      go_wp2_with fail
      refine hget.mono ?_
      rintro e w7 ⟨rfl, hR7, hm7⟩
      have hbk7 := hm7.heap HBI.out (fun e => by omega)
      have hc7 : w7.cell? ⟨w5.heap.size, 3 + i, none⟩ = some (.int .i64 0) := by
        refine cell_of hbk7 (inoC_b _ (p := 0) ?_)
        show (partBl L i)[i]? = some 0
        unfold partBl
        rw [List.getElem?_append_right (by rw [List.length_take]; omega), List.length_take, HF.out.len, Nat.min_eq_left (by omega), Nat.sub_self, show 8 - i = (7 - i) + 1 by omega]
        rfl
      have hf7 : w7.frozen? ⟨w5.heap.size, 3 + i, none⟩ = false := free_of hbk7
      have HBK7 := Lib.hid hbk7
      have HR7 := Lib.hid hR7
      have HM7 := Lib.hid hm7
      clear hget hbk7 hR7 hm7
      go_wp2_with fail
      go_roundw
      case rel =>
        have hmS := (Mod.refl (fun x => x = w5.heap.size) w7).setCell ⟨w5.heap.size, 3 + i, none⟩ (.int .i64 (p : Nat)) (fun _ => rfl)
        refine ⟨i + 1, by omega, by go_num, ?_, ?_, ?_⟩
        · rw [heap_setCell_at HBK7.out, inoC_set]
          simp only
          rw [partBl_set HF.out.len HLP.out]
        · rw [show 73 + 12 * (i + 1) = 73 + 12 * i + 12 by omega]
          exact HR7.out.mod hmS (by omega) (fun r hr e => by have := HVW.out r hr; omega)
        · exact HBB.out.trans ((HM7.out.below HBB.out.size fun x hx e => by have := HA.out; omega).trans (hmS.below (Nat.le_trans HBB.out.size HM7.out.size) fun x hx e => by omega))
      case measure => simp [intOf]; omega
    · obtain rfl : i = 8 := by omega
      rw [partBl_all HF.out.len] at hbi
      have hLI := lies_of hbi
      have hagx := hag ⟨k, g, vr, L⟩ HF.out.len
      have hlv := (HV1.out.below hBi)
      have HRi := Lib.hid hRi
      have HBi := Lib.hid hBi
      have HLV := Lib.hid hlv
      clear hRi hBi hlv
      by_cases hr : (Ino.mk k g vr L).right = true
      · have henc := ienc_ok wr ⟨k, g, vr, L⟩ HF.out hr
        have HRT := Lib.hid hr
        clear hr
        go_wp2_with (first
          | ((with_reducible refine wpList_loadA hagx hLI ?_ ?_); rfl; go_frame)
          | fail)
        refine henc.mono ?_
        rintro e w8 ⟨v8, rfl, hO8, hb8⟩
        obtain ⟨a8, n8, c8, rfl⟩ := hO8.shape
        have herr := rerr_any (HRi.out.below hb8)
        have heq := equal_any w8 _ _ B (Ino.mk k g vr L).sec (HLV.out.below hb8) (hO8.sl el8.len) HB8.out (sector_lt _)
        have hB8x := HBi.out.trans (hb8.mono HBi.out.size)
        have hLI8 : Lies w8 w5.heap.size 0 (inoC ⟨k, g, vr, L⟩) := lies_of ((hb8.block w5.heap.size (lt_of_block hbi)).trans hbi)
        clear henc hO8 hb8 hLI hbi
        by_cases he : B = (Ino.mk k g vr L).sec
        · rw [decide_eq_true he] at heq
          have HYES : Hid (inoOf B = some ⟨k, g, vr, L⟩) := Lib.hid (by
            unfold inoOf
            rw [HX.out, if_pos ⟨HRT.out, he.symm⟩])
          clear he
          have hbz8 := (hB8x.block w.heap.size (by rw [HZ1.out]; exact Nat.lt_succ_self _)).trans HBZ.out
          have honex := inoC_one ⟨k, g, vr, L⟩
          have hszx : (inoC (Ino.free 0)).size = (inoC ⟨k, g, vr, L⟩).size := by rw [inoC_size rfl, inoC_size HF.out.len]
          have HB8X := Lib.hid hB8x
          clear hB8x
          go_wp2_with (first
            | (go_at_call 39; refine herr.mono ?_; rintro e wt ⟨rfl, hw⟩; obtain rfl := hw.symm; clear hw)
            | (go_at_call 40; refine heq.mono ?_; rintro e wt ⟨rfl, hw⟩; obtain rfl := hw.symm; clear hw)
            | ((with_reducible refine wpList_loadA hagx hLI8 ?_ ?_); rfl; go_frame)
            | ((with_reducible refine wpList_storeB hagx ?_ ?_ hbz8 hszx honex ?_); rfl; rfl; (intro w9 hh9 hm9; have HH9 := Lib.hid hh9; have HM9 := Lib.hid hm9; clear hh9 hm9); go_frame)
            | fail)
          refine bodyPost_ret (results_cellT rfl _ rfl hagx (lies_of HH9.out)) rfl ?_
          rw [HYES.out]
          exact ⟨rfl, HB1.out.trans ((HB8X.out.mono HB1.out.size).trans (HM9.out.below (Nat.le_trans HB1.out.size HB8X.out.size) fun x hx e => by omega))⟩
        · rw [decide_eq_false he] at heq
          have HNO : Hid (inoOf B = none) := Lib.hid (by
            unfold inoOf
            rw [HX.out, if_neg (fun h => he h.2.symm)])
          clear he
          go_upto_region 10 with (first
            | (go_at_call 39; refine herr.mono ?_; rintro e wt ⟨rfl, hw⟩; obtain rfl := hw.symm; clear hw)
            | (go_at_call 40; refine heq.mono ?_; rintro e wt ⟨rfl, hw⟩; obtain rfl := hw.symm; clear hw)
            | fail)
          have hbz8 := (hB8x.block w.heap.size (by rw [HZ1.out]; exact Nat.lt_succ_self _)).trans HBZ.out
          have hone0 := inoC_one (Ino.free 0)
          have hag1 := hag (Ino.free 0) rfl
          have HB8X := Lib.hid hB8x
          clear hB8x
          go_wp2_with (first
            | ((with_reducible refine wpList_exec rfl (exec_buildA (vals := []) ?_ built_zero) ?_); rfl; go_frame)
            | ((with_reducible refine wpList_storeB hag1 ?_ ?_ hbz8 rfl hone0 ?_); rfl; rfl; (intro w9 hh9 hm9; have HH9 := Lib.hid hh9; have HM9 := Lib.hid hm9; clear hh9 hm9); go_frame)
            | fail)
          refine bodyPost_ret (results_cellT rfl _ rfl hag1 (lies_of HH9.out)) rfl ?_
          rw [HNO.out]
          exact ⟨rfl, HB1.out.trans ((HB8X.out.mono HB1.out.size).trans (HM9.out.below (Nat.le_trans HB1.out.size HB8X.out.size) fun x hx e => by omega))⟩
      · have hr' : (Ino.mk k g vr L).right = false := by simpa using hr
        have henc := ienc_no wr ⟨k, g, vr, L⟩ HF.out.len hr'
        have HNO : Hid (inoOf B = none) := Lib.hid (by
          unfold inoOf
          rw [HX.out, if_neg (fun h => hr h.1)])
        clear hr hr'
        go_wp2_with (first
          | ((with_reducible refine wpList_loadA hagx hLI ?_ ?_); rfl; go_frame)
          | fail)
        refine henc.mono ?_
        rintro e w8 ⟨rfl, hb8⟩
        have herr := rerr_any (HRi.out.below hb8)
        have hB8x := HBi.out.trans (hb8.mono HBi.out.size)
        clear henc hb8 hLI hbi
        go_upto_region 10 with (first
          | (go_at_call 39; refine herr.mono ?_; rintro e wt ⟨rfl, hw⟩; obtain rfl := hw.symm; clear hw)
          | fail)
        have hbz8 := (hB8x.block w.heap.size (by rw [HZ1.out]; exact Nat.lt_succ_self _)).trans HBZ.out
        have hone0 := inoC_one (Ino.free 0)
        have hag1 := hag (Ino.free 0) rfl
        have HB8X := Lib.hid hB8x
        clear hB8x
        go_wp2_with (first
          | ((with_reducible refine wpList_exec rfl (exec_buildA (vals := []) ?_ built_zero) ?_); rfl; go_frame)
          | ((with_reducible refine wpList_storeB hag1 ?_ ?_ hbz8 rfl hone0 ?_); rfl; rfl; (intro w9 hh9 hm9; have HH9 := Lib.hid hh9; have HM9 := Lib.hid hm9; clear hh9 hm9); go_frame)
          | fail)
        refine bodyPost_ret (results_cellT rfl _ rfl hag1 (lies_of HH9.out)) rfl ?_
        rw [HNO.out]
        exact ⟨rfl, HB1.out.trans ((HB8X.out.mono HB1.out.size).trans (HM9.out.below (Nat.le_trans HB1.out.size HB8X.out.size) fun x hx e => by omega))⟩
end Go.Proofs.YtipbaajdnnddgaaGreat

/- A record's sector: Decode. -/
namespace Go.Proofs.YtipbaajdnnddgaaGreat
open Go.RowKit Go.Tn Go.Tn.Bt Go.Tn.Ino
def Rec.zero : Rec := ⟨0, [(0, false), (0, false), (0, false), (0, false), (0, false), (0, false), (0, false), (0, false)]⟩
def decR : Option Rec → Value
  | some x => .tuple #[.agg (recC x), .int .i64 0]
  | none => .tuple #[.agg (recC Rec.zero), .int .i64 4]
theorem built_rz : Tryz.prog.built 35 [] = some (recC Rec.zero) := by kernel_rfl
theorem recC_z : recC Rec.zero = #[.int .u64 0, .int .u64 0, .bool false, .int .u64 0, .bool false, .int .u64 0, .bool false, .int .u64 0, .bool false, .int .u64 0, .bool false, .int .u64 0, .bool false, .int .u64 0, .bool false, .int .u64 0, .bool false] := rfl
theorem set2_flat (l : List (Nat × Bool)) (i s : Nat) (h : Bool) : ((l.flatMap clL).set (i * 2) (.int .u64 s)).set (i * 2 + 1) (.bool h) = (l.set i (s, h)).flatMap clL := by
  induction l generalizing i with
  | nil => simp
  | cons c l ih =>
    cases i with
    | zero => rfl
    | succ i =>
      rw [List.set_cons_succ, List.flatMap_cons, List.flatMap_cons, ← ih i, show (i + 1) * 2 = i * 2 + 2 by omega]
      rfl
theorem recC_set (x : Rec) (i s : Nat) (h : Bool) : ((recC x).setIfInBounds (1 + i * 2) (.int .u64 s)).setIfInBounds (1 + i * 2 + 1) (.bool h) = recC { x with cl := x.cl.set i (s, h) } := by
  apply Array.ext'
  rw [show 1 + i * 2 = i * 2 + 1 by omega]
  simp only [recC, recL, Array.toList_setIfInBounds, List.set_cons_succ]
  rw [set2_flat]
theorem recC_set0 (x : Rec) (b : Nat) : (recC x).setIfInBounds 0 (.int .u64 b) = recC { x with boot := b } := rfl
def partCl (L : List (Nat × Bool)) (i : Nat) : List (Nat × Bool) := L.take i ++ List.replicate (8 - i) (0, false)
theorem partCl_set {L : List (Nat × Bool)} (h : L.length = 8) {i : Nat} {p : Nat × Bool} (hp : L[i]? = some p) : (partCl L i).set i p = partCl L (i + 1) := by
  have hi : i < 8 := by have := (List.getElem?_eq_some_iff.1 hp).1; omega
  unfold partCl
  rw [List.set_append_right _ _ (by rw [List.length_take]; omega), List.length_take, h, Nat.min_eq_left (by omega), Nat.sub_self, show 8 - i = (8 - (i + 1)) + 1 by omega, List.replicate_succ, List.set_cons_zero, List.take_add_one, hp]
  simp
theorem partCl_all {L : List (Nat × Bool)} (h : L.length = 8) : partCl L 8 = L := by
  unfold partCl
  rw [List.take_of_length_le (by omega)]
  simp
theorem partCl_get {L : List (Nat × Bool)} (h : L.length = 8) {i : Nat} (hi : i < 8) : (partCl L i)[i]? = some (0, false) := by
  unfold partCl
  rw [List.getElem?_append_right (by rw [List.length_take]; omega), List.length_take, h, Nat.min_eq_left (by omega), Nat.sub_self, show 8 - i = (7 - i) + 1 by omega]
  rfl
theorem bit1 {n : Nat} (h : n < 2) : (((n : Nat) : Int) == 1) = (n == 1) := by
  rw [Bool.eq_iff_iff]
  simp
  omega
set_option maxRecDepth 20000 in
set_option maxHeartbeats 4000000 in
theorem edec_any (w : World) (v : Value) (B : List Nat) (hv : LSl en8 1 w v B) (hl : B.length = 128) (hB : ∀ x ∈ B, x < 256) : Calls Tryz.prog 21 #[v] w
    fun e w' => e = .returned (decR (recI B)) ∧ Below w.heap.size w w' := by
  have hbz : (w.alloc (.cells (recC Rec.zero) 35)).heap[w.heap.size]? = some (.cells (recC Rec.zero) 35 (0, 0)) := heap_alloc_at
  have hb1 : Below w.heap.size w (w.alloc (.cells (recC Rec.zero) 35)) := (Below.refl _ _).alloc (Nat.le_refl _) _
  have hz1 : (w.alloc (.cells (recC Rec.zero) 35)).heap.size = w.heap.size + 1 := by simp
  generalize hw1 : w.alloc (.cells (recC Rec.zero) 35) = w1 at hbz hb1 hz1
  have hc2 : (w1.alloc (.cells (recC Rec.zero) 35)).heap[w1.heap.size]? = some (.cells (recC Rec.zero) 35 (0, 0)) := heap_alloc_at
  have hb2 : Below w1.heap.size w1 (w1.alloc (.cells (recC Rec.zero) 35)) := (Below.refl _ _).alloc (Nat.le_refl _) _
  have hz2 : (w1.alloc (.cells (recC Rec.zero) 35)).heap.size = w1.heap.size + 1 := by simp
  generalize hw2 : w1.alloc (.cells (recC Rec.zero) 35) = w2 at hc2 hb2 hz2
  have hv1 := hv.below hb1
  have hv2 := hv1.below hb2
  have hop := ropen_any w2 v B hv2 hB (by omega)
  obtain ⟨ao, ca, rfl, -⟩ := hv
  rw [recC_z] at hw1 hw2
  have HV1 := Lib.hid hv1
  have HB1 := Lib.hid hb1
  have HBZ := Lib.hid hbz
  have HZ1 := Lib.hid hz1
  have HB8 := Lib.hid hB
  have HL := Lib.hid hl
  have HC2 := Lib.hid hc2
  have HB2 := Lib.hid hb2
  have HZ2 := Lib.hid hz2
  clear hb1 hbz hz1 hv1 hv2 hB hl hc2 hb2 hz2
  go_enter Tryz.func21, Tryz.ntmps21
  go_upto_region 2 with fail
  clear hw1 hw2
  obtain ⟨k, hk⟩ : ∃ k, natOf (((unpack B).drop 0).take 40) = k := ⟨_, rfl⟩
  obtain ⟨L, hL⟩ : ∃ L, ((List.range 8).map fun j => (natOf (((unpack B).drop (40 + 41 * j)).take 40), natOf (((unpack B).drop (80 + 41 * j)).take 1) == 1)) = L := ⟨_, rfl⟩
  have hx : recAt B = ⟨k, L⟩ := by rw [← hk, ← hL]; rfl
  have hfit := recAt_fits B
  rw [hx] at hfit
  have hLj : ∀ j, j < 8 → L[j]? = some (natOf (((unpack B).drop (40 + 41 * j)).take 40), natOf (((unpack B).drop (80 + 41 * j)).take 1) == 1) := fun j hj => by rw [← hL]; simp [hj]
  have hk40 : k < 1099511627776 := hfit.boot
  have HX := Lib.hid hx
  have HF := Lib.hid hfit
  have HLJ := Lib.hid hLj
  have HK := Lib.hid hk
  clear hL hx hfit hLj hk
  go_wp2_with fail
  refine hop.mono ?_
  rintro e w3 ⟨a, v3, rfl, hR3, ha3, hv3, hb3⟩
  have hg3 := get_ok hR3 40 (by decide) (by rw [HL.out]; decide)
  rw [HK.out] at hg3
  have HA := Lib.hid ha3
  have HV3 := Lib.hid hv3
  have HB3 := Lib.hid hb3
  clear hop hR3 ha3 hv3 hb3
  go_wp2_with fail
  refine hg3.mono ?_
  rintro e w4 ⟨rfl, hR4, hm4⟩
  have hbk4 := hm4.heap ((HB3.out.block w1.heap.size (by rw [HZ2.out]; exact Nat.lt_succ_self _)).trans HC2.out) (fun e => by have := HA.out; have := HZ2.out; omega)
  have hb4 : Below w1.heap.size w1 w4 := HB2.out.trans ((HB3.out.mono HB2.out.size).trans (hm4.below (Nat.le_trans HB2.out.size HB3.out.size) fun x hx e => by have := HA.out; have := HZ2.out; omega))
  have hc4 : w4.cell? ⟨w1.heap.size, 0, none⟩ = some (.int .u64 0) := cell_of hbk4 rfl
  have hf4 : w4.frozen? ⟨w1.heap.size, 0, none⟩ = false := free_of hbk4
  have HBK4 := Lib.hid hbk4
  have HR4 := Lib.hid hR4
  have HB4 := Lib.hid hb4
  have HAW := Lib.hid (show w1.heap.size ≠ a by have := HA.out; have := HZ2.out; omega)
  have HVW := Lib.hid (show ∀ r, v3.ownBlock = some r → r ≠ w1.heap.size from fun r hr e => by have := HV3.out r hr; have := HZ2.out; omega)
  have hag : ∀ x : Rec, x.cl.length = 8 → AggT Tryz.prog 35 (recC x).size := fun x h => aggR h
  clear hg3 hbk4 hR4 hm4 hb4
  go_wp2_with fail
  have hm4' := (Mod.refl (fun x => x = w1.heap.size) w4).setCell ⟨w1.heap.size, 0, none⟩ (.int .u64 (k : Nat)) (fun _ => rfl)
  have hbk0 : (w4.setCell ⟨w1.heap.size, 0, none⟩ (.int .u64 (k : Nat))).heap[w1.heap.size]? = some (.cells (recC ⟨k, partCl L 0⟩) 35 (0, 0)) := by
    rw [heap_setCell_at HBK4.out, recC_set0]
    rfl
  have hR0 := HR4.out.mod hm4' HAW.out.symm HVW.out
  have hB0 := HB4.out.trans (hm4'.below HB4.out.size fun x hx e => by omega)
  have HBK0 := Lib.hid hbk0
  have HR0 := Lib.hid hR0
  have HB0 := Lib.hid hB0
  clear hm4' hbk0 hR0 hB0 hc4 hf4 HBK4 HR4 HB4
  go_loopw [14] (fun iv wi => ∃ i : Nat, i ≤ 8 ∧ iv = .int .i64 i ∧ wi.heap[w1.heap.size]? = some (.cells (recC ⟨k, partCl L i⟩) 35 (0, 0)) ∧ RdAt wi a v3 B (40 + 41 * i) 0 ∧ Below w1.heap.size w1 wi) (fun iv _ => 8 - (intOf iv).toNat)
  case atStart => exact ⟨0, by omega, rfl, HBK0.out, HR0.out, HB0.out⟩
  case round =>
    obtain ⟨i, hi, rfl, hbi, hRi, hBi⟩ := hrel
    by_cases hi8 : i < 8
    · have hi8' : (i : Int) < 8 := by omega
      obtain ⟨p, hp⟩ : ∃ p, natOf (((unpack B).drop (40 + 41 * i)).take 40) = p := ⟨_, rfl⟩
      obtain ⟨q, hq⟩ : ∃ q, natOf (((unpack B).drop (80 + 41 * i)).take 1) = q := ⟨_, rfl⟩
      have hLp := HLJ.out i hi8
      rw [hp, hq] at hLp
      have hq2 : q < 2 := by rw [← hq]; exact lt_natOf _ 1
      have hqb := bit1 hq2
      have hget := get_ok hRi 40 (by decide) (by rw [HL.out]; omega)
      rw [hp] at hget
      have HLP := Lib.hid hLp
      have HBI := Lib.hid hbi
      have HBB := Lib.hid hBi
      have HQ := Lib.hid hq
      clear hp hLp hRi hbi hBi hq
      go_wp2_with fail
      refine hget.mono ?_
      rintro e w7 ⟨rfl, hR7, hm7⟩
      have hget2 := get_ok hR7 1 (by decide) (by rw [HL.out]; omega)
      rw [show 40 + 41 * i + 40 = 80 + 41 * i by omega, HQ.out] at hget2
      have HM7 := Lib.hid hm7
      clear hget hR7 hm7
      go_wp2_with fail
      refine hget2.mono ?_
      rintro e w8 ⟨rfl, hR8, hm8⟩
      have hbk8 := hm8.heap (HM7.out.heap HBI.out HAW.out) HAW.out
      have hg0 := recL_c ⟨k, partCl L i⟩ (partCl_get HF.out.len hi8) (o := 0) (by decide)
      have hg1 := recL_c ⟨k, partCl L i⟩ (partCl_get HF.out.len hi8) (o := 1) (by decide)
      have hc0 : w8.cell? ⟨w1.heap.size, 1 + i * 2, none⟩ = some (.int .u64 0) := cell_of hbk8 hg0
      have hc1 : w8.cell? ⟨w1.heap.size, 1 + i * 2 + 1, none⟩ = some (.bool false) := cell_of hbk8 (by rw [Nat.add_assoc]; exact hg1)
      have hf0 : w8.frozen? ⟨w1.heap.size, 1 + i * 2, none⟩ = false := free_of hbk8
      have hf1 : w8.frozen? ⟨w1.heap.size, 1 + i * 2 + 1, none⟩ = false := free_of hbk8
      have HBK8 := Lib.hid hbk8
      have HR8 := Lib.hid hR8
      have HM8 := Lib.hid hm8
      clear hget2 hbk8 hR8 hm8 hg0 hg1
      go_wp2_with fail
      go_roundw
      case rel =>
        have hmS := ((Mod.refl (fun x => x = w1.heap.size) w8).setCell ⟨w1.heap.size, 1 + i * 2, none⟩ (.int .u64 (p : Nat)) (fun _ => rfl)).setCell ⟨w1.heap.size, 1 + i * 2 + 1, none⟩ (.bool (q == 1)) (fun _ => rfl)
        refine ⟨i + 1, by omega, by go_num, ?_, ?_, ?_⟩
        · rw [heap_setCell_at (heap_setCell_at HBK8.out), recC_set]
          simp only
          rw [partCl_set HF.out.len HLP.out]
        · rw [show 40 + 41 * (i + 1) = 80 + 41 * i + 1 by omega]
          exact HR8.out.mod hmS HAW.out.symm HVW.out
        · exact HBB.out.trans (((HM7.out.trans HM8.out (fun x h => h) (fun x _ h => h)).below HBB.out.size fun x hx e => by have := HA.out; have := HZ2.out; omega).trans (hmS.below (Nat.le_trans HBB.out.size (Nat.le_trans HM7.out.size HM8.out.size)) fun x hx e => by omega))
      case measure => simp [intOf]; omega
    · obtain rfl : i = 8 := by omega
      rw [partCl_all HF.out.len] at hbi
      have hLI := lies_of hbi
      have hagx := hag ⟨k, L⟩ HF.out.len
      have hlv := HV1.out.below hBi
      have henc := eenc_any wr ⟨k, L⟩ HF.out
      have HRi := Lib.hid hRi
      have HBi := Lib.hid hBi
      have HLV := Lib.hid hlv
      clear hRi hBi hlv
      go_wp2_with (first
        | ((with_reducible refine wpList_loadA hagx hLI ?_ ?_); rfl; go_frame)
        | fail)
      refine henc.mono ?_
      rintro e w8 ⟨hP, hb8⟩
      have herr := rerr_any (HRi.out.below hb8)
      have hB8x := HBi.out.trans (hb8.mono HBi.out.size)
      have hLI8 : Lies w8 w1.heap.size 0 (recC ⟨k, L⟩) := lies_of ((hb8.block w1.heap.size (lt_of_block hbi)).trans hbi)
      have hlv8 := HLV.out.below hb8
      unfold eencP at hP
      clear henc hb8 hLI hbi
      by_cases hr : (Rec.mk k L).right = true
      · rw [if_pos hr] at hP
        obtain ⟨v8, rfl, hO8⟩ := hP
        obtain ⟨a8, n8, c8, rfl⟩ := hO8.shape
        have heq := equal_any w8 _ _ B (Rec.mk k L).sec hlv8 (hO8.sl el8.len) HB8.out (sector_lt _)
        have HRT := Lib.hid hr
        clear hr hO8 hlv8
        by_cases he : B = (Rec.mk k L).sec
        · rw [decide_eq_true he] at heq
          have HYES : Hid (recI B = some ⟨k, L⟩) := Lib.hid (by
            unfold recI
            rw [HX.out, if_pos ⟨HRT.out, he.symm⟩])
          clear he
          have hbz8 := (hB8x.block w.heap.size (by rw [HZ1.out]; exact Nat.lt_succ_self _)).trans HBZ.out
          have honex := recC_one ⟨k, L⟩
          have hszx : (recC Rec.zero).size = (recC ⟨k, L⟩).size := by rw [recC_size rfl, recC_size HF.out.len]
          have HB8X := Lib.hid hB8x
          clear hB8x
          go_wp2_with (first
            | (go_at_call 39; refine herr.mono ?_; rintro e wt ⟨rfl, hw⟩; obtain rfl := hw.symm; clear hw)
            | (go_at_call 40; refine heq.mono ?_; rintro e wt ⟨rfl, hw⟩; obtain rfl := hw.symm; clear hw)
            | ((with_reducible refine wpList_loadA hagx hLI8 ?_ ?_); rfl; go_frame)
            | ((with_reducible refine wpList_storeB hagx ?_ ?_ hbz8 hszx honex ?_); rfl; rfl; (intro w9 hh9 hm9; have HH9 := Lib.hid hh9; have HM9 := Lib.hid hm9; clear hh9 hm9); go_frame)
            | fail)
          refine bodyPost_ret (results_cellT rfl _ rfl hagx (lies_of HH9.out)) rfl ?_
          rw [HYES.out]
          exact ⟨rfl, HB1.out.trans ((HB8X.out.mono HB1.out.size).trans (HM9.out.below (Nat.le_trans HB1.out.size HB8X.out.size) fun x hx e => by omega))⟩
        · rw [decide_eq_false he] at heq
          have HNO : Hid (recI B = none) := Lib.hid (by
            unfold recI
            rw [HX.out, if_neg (fun h => he h.2.symm)])
          clear he
          go_upto_region 11 with (first
            | (go_at_call 39; refine herr.mono ?_; rintro e wt ⟨rfl, hw⟩; obtain rfl := hw.symm; clear hw)
            | (go_at_call 40; refine heq.mono ?_; rintro e wt ⟨rfl, hw⟩; obtain rfl := hw.symm; clear hw)
            | fail)
          have hbz8 := (hB8x.block w.heap.size (by rw [HZ1.out]; exact Nat.lt_succ_self _)).trans HBZ.out
          have hone0 := recC_one Rec.zero
          have hag1 := hag Rec.zero rfl
          have HB8X := Lib.hid hB8x
          clear hB8x
          go_wp2_with (first
            | ((with_reducible refine wpList_exec rfl (exec_buildA (vals := []) ?_ built_rz) ?_); rfl; go_frame)
            | ((with_reducible refine wpList_storeB hag1 ?_ ?_ hbz8 rfl hone0 ?_); rfl; rfl; (intro w9 hh9 hm9; have HH9 := Lib.hid hh9; have HM9 := Lib.hid hm9; clear hh9 hm9); go_frame)
            | fail)
          refine bodyPost_ret (results_cellT rfl _ rfl hag1 (lies_of HH9.out)) rfl ?_
          rw [HNO.out]
          exact ⟨rfl, HB1.out.trans ((HB8X.out.mono HB1.out.size).trans (HM9.out.below (Nat.le_trans HB1.out.size HB8X.out.size) fun x hx e => by omega))⟩
      · rw [if_neg hr] at hP
        subst hP
        have HNO : Hid (recI B = none) := Lib.hid (by
          unfold recI
          rw [HX.out, if_neg (fun h => hr h.1)])
        clear hr hlv8
        go_upto_region 11 with (first
          | (go_at_call 39; refine herr.mono ?_; rintro e wt ⟨rfl, hw⟩; obtain rfl := hw.symm; clear hw)
          | fail)
        have hbz8 := (hB8x.block w.heap.size (by rw [HZ1.out]; exact Nat.lt_succ_self _)).trans HBZ.out
        have hone0 := recC_one Rec.zero
        have hag1 := hag Rec.zero rfl
        have HB8X := Lib.hid hB8x
        clear hB8x
        go_wp2_with (first
          | ((with_reducible refine wpList_exec rfl (exec_buildA (vals := []) ?_ built_rz) ?_); rfl; go_frame)
          | ((with_reducible refine wpList_storeB hag1 ?_ ?_ hbz8 rfl hone0 ?_); rfl; rfl; (intro w9 hh9 hm9; have HH9 := Lib.hid hh9; have HM9 := Lib.hid hm9; clear hh9 hm9); go_frame)
          | fail)
        refine bodyPost_ret (results_cellT rfl _ rfl hag1 (lies_of HH9.out)) rfl ?_
        rw [HNO.out]
        exact ⟨rfl, HB1.out.trans ((HB8X.out.mono HB1.out.size).trans (HM9.out.below (Nat.le_trans HB1.out.size HB8X.out.size) fun x hx e => by omega))⟩
end Go.Proofs.YtipbaajdnnddgaaGreat

/- A record with another client; who holds something. -/
namespace Go.Tn.Ino
def Rec.with_ (x : Rec) (c s : Nat) (b : Bool) : Rec := { x with cl := x.cl.set c (s, b) }
end Go.Tn.Ino
namespace Go.Proofs.YtipbaajdnnddgaaGreat
open Go.RowKit Go.Tn Go.Tn.Bt Go.Tn.Ino
set_option maxRecDepth 20000 in
set_option maxHeartbeats 4000000 in
theorem ewith_any (w : World) (x : Rec) (h : x.cl.length = 8) (c : Nat) (hc : c < 8) (s : Nat) (b : Bool) : Calls Tryz.prog 24 #[.agg (recC x), .int .i64 c, .int .u64 s, .bool b] w
    fun e w' => e = .returned (.agg (recC (x.with_ c s b))) ∧ Below w.heap.size w w' := by
  have hbz : (w.alloc (.cells (recC x) 35)).heap[w.heap.size]? = some (.cells (recC x) 35 (0, 0)) := heap_alloc_at
  have hb1 : Below w.heap.size w (w.alloc (.cells (recC x) 35)) := (Below.refl _ _).alloc (Nat.le_refl _) _
  have hz1 : (w.alloc (.cells (recC x) 35)).heap.size = w.heap.size + 1 := by simp
  generalize hw1 : w.alloc (.cells (recC x) 35) = w1 at hbz hb1 hz1
  have hc2 : (w1.alloc (.cells (recC Rec.zero) 35)).heap[w1.heap.size]? = some (.cells (recC Rec.zero) 35 (0, 0)) := heap_alloc_at
  have hb2 : Below w1.heap.size w1 (w1.alloc (.cells (recC Rec.zero) 35)) := (Below.refl _ _).alloc (Nat.le_refl _) _
  have hz2 : (w1.alloc (.cells (recC Rec.zero) 35)).heap.size = w1.heap.size + 1 := by simp
  generalize hw2 : w1.alloc (.cells (recC Rec.zero) 35) = w2 at hc2 hb2 hz2
  rw [recC_z] at hw2
  have hb20 := (hb2.block w.heap.size (by omega)).trans hbz
  obtain ⟨⟨s0, b0⟩, hp⟩ : ∃ p, x.cl[c]? = some p := ⟨_, List.getElem?_eq_getElem (by omega)⟩
  have hg0 := recL_c x hp (o := 0) (by decide)
  have hg1 := recL_c x hp (o := 1) (by decide)
  have hc0 : w2.cell? ⟨w.heap.size, 1 + c * 2, none⟩ = some (.int .u64 (s0 : Nat)) := cell_of hb20 hg0
  have hc1 : w2.cell? ⟨w.heap.size, 1 + c * 2 + 1, none⟩ = some (.bool b0) := cell_of hb20 (by rw [Nat.add_assoc]; exact hg1)
  have hf0 : w2.frozen? ⟨w.heap.size, 1 + c * 2, none⟩ = false := free_of hb20
  have hf1 : w2.frozen? ⟨w.heap.size, 1 + c * 2 + 1, none⟩ = false := free_of hb20
  have hm := ((Mod.refl (fun x => x = w.heap.size) w2).setCell ⟨w.heap.size, 1 + c * 2, none⟩ (.int .u64 (s : Nat)) (fun _ => rfl)).setCell ⟨w.heap.size, 1 + c * 2 + 1, none⟩ (.bool b) (fun _ => rfl)
  have hbk : ((w2.setCell ⟨w.heap.size, 1 + c * 2, none⟩ (.int .u64 (s : Nat))).setCell ⟨w.heap.size, 1 + c * 2 + 1, none⟩ (.bool b)).heap[w.heap.size]? = some (.cells (recC (x.with_ c s b)) 35 (0, 0)) := by
    rw [heap_setCell_at (heap_setCell_at hb20), recC_set]
    rfl
  have hbr := hm.heap hc2 (by omega)
  have hc8 : (c : Int) < 8 := by omega
  have hlen : (x.with_ c s b).cl.length = 8 := by show (x.cl.set c (s, b)).length = 8; rw [List.length_set, h]
  have hag := aggR hlen
  have hone := recC_one (x.with_ c s b)
  have hL := lies_of hbk
  have hsz : (recC Rec.zero).size = (recC (x.with_ c s b)).size := by rw [recC_size rfl, recC_size hlen]
  have HB : Hid (Below w.heap.size w w2) := Lib.hid (hb1.trans (hb2.mono (by omega)))
  have HM := Lib.hid hm
  have HZ1 := Lib.hid hz1
  have HZ2 := Lib.hid hz2
  clear hbz hb1 hz1 hc2 hb2 hz2 hb20 hp hg0 hg1 hm hbk hlen
  go_enter Tryz.func24, Tryz.ntmps24
  go_upto_region 1 with fail
  clear hw1 hw2
  go_wp2_with (first
    | ((with_reducible refine wpList_loadA hag hL ?_ ?_); rfl; go_frame)
    | ((with_reducible refine wpList_storeB hag ?_ ?_ hbr hsz hone ?_); rfl; rfl; (intro w9 hh9 hm9; have HH9 := Lib.hid hh9; have HM9 := Lib.hid hm9; clear hh9 hm9); go_frame)
    | fail)
  refine bodyPost_ret (results_cellA rfl _ rfl hag (lies_of HH9.out)) rfl ?_
  exact ⟨rfl, HB.out.trans ((HM.out.below HB.out.size fun x hx e => by omega).trans (HM9.out.below (Nat.le_trans HB.out.size HM.out.size) fun x hx e => by have := HZ1.out; omega))⟩
end Go.Proofs.YtipbaajdnnddgaaGreat

/- The map of homes in memory; its smallest functions. -/
namespace Go.Proofs.YtipbaajdnnddgaaGreat.Al
open Go.RowKit Go.Tn Go.Tn.Bits
set_option maxRecDepth 20000

/-- Word k of the homes. -/
def wd (T : Nat → Bool) (k : Nat) : Nat := num (fun j => T (64 * k + j)) 64
theorem wd_lt (T : Nat → Bool) (k : Nat) : wd T k < 18446744073709551616 := num_lt _ 64
def mapCells (n : Nat) (T : Nat → Bool) : Array Value := (Value.int .i64 n :: (List.range 16).map fun k => Value.int .u64 (wd T k)).toArray
theorem mapCells_0 (n : Nat) (T : Nat → Bool) : (mapCells n T)[0]? = some (.int .i64 n) := rfl
theorem mapCells_w (n : Nat) (T : Nat → Bool) {k : Nat} (h : k < 16) : (mapCells n T)[1 + k]? = some (.int .u64 (wd T k)) := by
  simp [mapCells, Nat.add_comm 1 k, h]
theorem mapCells_size (n : Nat) (T : Nat → Bool) : (mapCells n T).size = 17 := by simp [mapCells]
theorem mapCells_set (n : Nat) (T T' : Nat → Bool) {k : Nat} (h : k < 16) (hT : ∀ j, j < 16 → j ≠ k → wd T' j = wd T j) : (mapCells n T).setIfInBounds (1 + k) (.int .u64 (wd T' k)) = mapCells n T' := by
  apply Array.ext'
  apply List.ext_getElem?
  intro i
  simp only [mapCells, Array.toList_setIfInBounds]
  rw [List.getElem?_set]
  cases i with
  | zero => simp
  | succ i =>
    by_cases hi : i < 16
    · by_cases hk : i = k
      · subst hk; simp [Nat.add_comm 1, hi]
      · have : 1 + k ≠ i + 1 := by omega
        simp [this, hi, hT i hi hk]
    · have : 1 + k ≠ i + 1 := by omega
      simp [this, hi]

/-- A map of n homes at block b: T tells which are taken. -/
structure MapAt (w : World) (b n : Nat) (T : Nat → Bool) : Prop where
  blk : w.heap[b]? = some (.cells (mapCells n T) 149 (0, 0))
  pos : 1 ≤ n
  le : n ≤ 1024
  out : ∀ i, n ≤ i → T i = false

theorem MapAt.n_ {w : World} {b n : Nat} {T : Nat → Bool} (h : MapAt w b n T) : w.cell? ⟨b, 0, none⟩ = some (.int .i64 n) := cell_of h.blk (mapCells_0 n T)
theorem MapAt.w_ {w : World} {b n : Nat} {T : Nat → Bool} (h : MapAt w b n T) {k : Nat} (hk : k < 16) : w.cell? ⟨b, 1 + k, none⟩ = some (.int .u64 (wd T k)) := cell_of h.blk (mapCells_w n T hk)
theorem MapAt.free {w : World} {b n : Nat} {T : Nat → Bool} (h : MapAt w b n T) {o : Nat} : w.frozen? ⟨b, o, none⟩ = false := free_of h.blk
theorem MapAt.below {w w' : World} {b n : Nat} {T : Nat → Bool} {B : Nat} (h : MapAt w b n T) (hb : Below B w w') (hB : b < B) : MapAt w' b n T := ⟨(hb.block b hB).trans h.blk, h.pos, h.le, h.out⟩
theorem MapAt.mod {w w' : World} {b n : Nat} {T : Nat → Bool} {S : Nat → Prop} (h : MapAt w b n T) (hm : Mod S w w') (hS : ¬ S b) : MapAt w' b n T := ⟨hm.heap h.blk hS, h.pos, h.le, h.out⟩

theorem ok_any (w : World) (b n : Nat) (T : Nat → Bool) (h : MapAt w b n T) : Calls Tryz.prog 91 #[.pointer (some ⟨b, 0, none⟩)] w fun e w' => e = .returned (.bool true) ∧ w' = w := by
  have c := h.n_
  have hp : 0 < n := h.pos
  go_enter Tryz.func91, Tryz.ntmps91
  go_wp2
  go_ret
  exact ⟨rfl, rfl⟩

theorem pow_wrap (k : Nat) (h : k < 64) : IntKind.u64.wrap ((2 : Int) ^ k) = ((2 ^ k : Nat) : Int) := by
  have h2 : 2 ^ k < 18446744073709551616 := Nat.pow_lt_pow_right (by decide) h
  rw [show (2 : Int) ^ k = ((2 ^ k : Nat) : Int) by rw [Int.natCast_pow]; rfl]
  exact wrap_u64 _ h2

theorem bit_any (w : World) (i : Nat) : Calls Tryz.prog 94 #[.int .i64 i] w fun e w' => e = .returned (.int .u64 ((2 ^ (63 - i % 64) : Nat) : Int)) ∧ w' = w := by
  have hp := pow_wrap (63 - i % 64) (by omega)
  go_enter Tryz.func94, Tryz.ntmps94
  go_wp2
  go_ret
  exact ⟨by rw [← hp]; rfl, rfl⟩

theorem MapAt.drewN {w : World} {b n : Nat} {T : Nat → Bool} (h : MapAt w b n T) (k : Nat) : MapAt (w.drewN k) b n T := ⟨h.blk, h.pos, h.le, h.out⟩
theorem MapAt.drew {w : World} {b n : Nat} {T : Nat → Bool} (h : MapAt w b n T) : MapAt w.drew b n T := ⟨h.blk, h.pos, h.le, h.out⟩

theorem in_yes (w : World) (b n : Nat) (T : Nat → Bool) (h : MapAt w b n T) (i : Nat) (hi : i < n) : Calls Tryz.prog 92 #[.pointer (some ⟨b, 0, none⟩), .int .i64 i] w fun e w' => e = .returned (.bool true) ∧ w' = w := by
  have c := h.n_
  go_enter Tryz.func92, Tryz.ntmps92
  go_wp2_with (go_at_call 91; refine (ok_any w b n T h).mono ?_; rintro e w ⟨rfl, rfl⟩)
  go_ret
  first | exact ⟨rfl, rfl⟩ | exact ⟨congrArg (fun x => Ending.returned (.bool x)) (decide_eq_true (by omega)), rfl⟩

theorem in_no (w : World) (b n : Nat) (T : Nat → Bool) (h : MapAt w b n T) (i : Int) (hi : ¬ (0 ≤ i ∧ i < n)) : Calls Tryz.prog 92 #[.pointer (some ⟨b, 0, none⟩), .int .i64 i] w fun e w' => e = .returned (.bool false) ∧ w' = w := by
  have c := h.n_
  by_cases h0 : 0 ≤ i
  · have h1 : ¬ (i < n) := fun h => hi ⟨h0, h⟩
    clear hi
    go_enter Tryz.func92, Tryz.ntmps92
    go_wp2_with (go_at_call 91; refine (ok_any w b n T h).mono ?_; rintro e w ⟨rfl, rfl⟩)
    go_ret
    exact ⟨congrArg (fun x => Ending.returned (.bool x)) (decide_eq_false (by omega)), rfl⟩
  · have h0' : i < 0 := by omega
    go_enter Tryz.func92, Tryz.ntmps92
    go_wp2_with (go_at_call 91; refine (ok_any w b n T h).mono ?_; rintro e w ⟨rfl, rfl⟩)
    go_ret
    exact ⟨rfl, rfl⟩

theorem has_word (T : Nat → Bool) (i : Nat) : bits .and .u64 (wd T (i / 64) : Int) ((2 ^ (63 - i % 64) : Nat) : Int) = if T i then ((2 ^ (63 - i % 64) : Nat) : Int) else 0 := by
  have hp : 2 ^ (63 - i % 64) < 18446744073709551616 := Nat.pow_lt_pow_right (show 1 < 2 by decide) (show 63 - i % 64 < 64 by omega)
  rw [bits_and _ _ (wd_lt T _) hp]
  have := num_and (fun j => T (64 * (i / 64) + j)) (m := 64) (i := i % 64) (by omega)
  have e : 64 * (i / 64) + i % 64 = i := by omega
  simp only [e] at this
  unfold wd
  rw [show 63 - i % 64 = 64 - 1 - i % 64 by omega, this]
  split <;> simp

theorem has_yes (w : World) (b n : Nat) (T : Nat → Bool) (h : MapAt w b n T) (i : Nat) (hi : i < n) : Calls Tryz.prog 93 #[.pointer (some ⟨b, 0, none⟩), .int .i64 i] w fun e w' => e = .returned (.bool (T i)) ∧ ∃ k, w' = w.drewN k := by
  have hw := has_word T i
  have hbit := fun w => bit_any w i
  have hpos : 0 < 2 ^ (63 - i % 64) := Nat.pow_pos (by decide)
  have c := h.w_ (k := i / 64) (by have := h.le; omega)
  have hidx : (i : Int) / 64 < 16 := by have := h.le; omega
  generalize 2 ^ (63 - i % 64) = p at *
  generalize wd T (i / 64) = x at *
  cases hT : T i
  · rw [hT] at hw
    simp only [Bool.false_eq_true, if_false] at hw
    have HT := Lib.hid hT
    clear hT
    go_enter Tryz.func93, Tryz.ntmps93
    go_wp2
    go_quiet (first
      | (go_at_call 92; refine Calls.quiet_of_same (in_yes _ b n T (h.drewN _) i hi))
      | (go_at_call 94; refine Calls.quiet_of_same (hbit _)))
    go_wp2
    go_ret
    exact ⟨rfl, nq, rfl⟩
  · rw [hT] at hw
    simp only [if_true] at hw
    have HT := Lib.hid hT
    have hne : ((p : Int) != 0) = true := by simp; omega
    clear hT
    go_enter Tryz.func93, Tryz.ntmps93
    go_wp2
    go_quiet (first
      | (go_at_call 92; refine Calls.quiet_of_same (in_yes _ b n T (h.drewN _) i hi))
      | (go_at_call 94; refine Calls.quiet_of_same (hbit _)))
    go_wp2
    go_ret
    exact ⟨rfl, nq, rfl⟩

theorem has_no (w : World) (b n : Nat) (T : Nat → Bool) (h : MapAt w b n T) (i : Int) (hi : ¬ (0 ≤ i ∧ i < n)) : Calls Tryz.prog 93 #[.pointer (some ⟨b, 0, none⟩), .int .i64 i] w fun e w' => e = .returned (.bool false) ∧ ∃ k, w' = w.drewN k := by
  go_enter Tryz.func93, Tryz.ntmps93
  go_wp2
  go_quiet (first | (go_at_call 92; refine Calls.quiet_of_same (in_no _ b n T (h.drewN _) i hi)))
  go_wp2
  go_ret
  exact ⟨rfl, nq, rfl⟩

theorem cell_set {w : World} {b n : Nat} {T T' : Nat → Bool} (h : MapAt w b n T) {k : Nat} (hk : k < 16) (hT : ∀ j, j < 16 → j ≠ k → wd T' j = wd T j) (ho : ∀ i, n ≤ i → T' i = false) :
    MapAt (w.setCell ⟨b, 1 + k, none⟩ (.int .u64 (wd T' k))) b n T' :=
  ⟨by rw [heap_setCell_at h.blk, mapCells_set n T T' hk hT], h.pos, h.le, ho⟩
theorem wd_other (T : Nat → Bool) (i : Nat) (v : Bool) {j : Nat} (h : j ≠ i / 64) : wd (setB T i v) j = wd T j :=
  num_congr fun l hl => setB_ne T v (by omega)
theorem wd_or (T : Nat → Bool) (i : Nat) : bits .or .u64 (wd T (i / 64) : Int) ((2 ^ (63 - i % 64) : Nat) : Int) = (wd (setB T i true) (i / 64) : Int) := by
  have hp : 2 ^ (63 - i % 64) < 18446744073709551616 := Nat.pow_lt_pow_right (show 1 < 2 by decide) (show 63 - i % 64 < 64 by omega)
  rw [bits_or _ _ (wd_lt T _) hp]
  have := num_or (fun j => T (64 * (i / 64) + j)) (m := 64) (i := i % 64) (by omega)
  unfold wd
  rw [show 63 - i % 64 = 64 - 1 - i % 64 by omega, this]
  refine congrArg (fun x : Nat => (x : Int)) (num_congr fun l hl => ?_)
  unfold setB
  have : (l = i % 64) ↔ (64 * (i / 64) + l = i) := by omega
  simp only [this]
theorem wd_xor (T : Nat → Bool) (i : Nat) : bits .xor .u64 (wd T (i / 64) : Int) ((2 ^ (63 - i % 64) : Nat) : Int) = (wd (setB T i (!T i)) (i / 64) : Int) := by
  have hp : 2 ^ (63 - i % 64) < 18446744073709551616 := Nat.pow_lt_pow_right (show 1 < 2 by decide) (show 63 - i % 64 < 64 by omega)
  rw [bits_xor _ _ (wd_lt T _) hp]
  have := num_xor (fun j => T (64 * (i / 64) + j)) (m := 64) (i := i % 64) (by omega)
  unfold wd
  rw [show 63 - i % 64 = 64 - 1 - i % 64 by omega, this]
  refine congrArg (fun x : Nat => (x : Int)) (num_congr fun l hl => ?_)
  unfold setB
  have : (l = i % 64) ↔ (64 * (i / 64) + l = i) := by omega
  have e : 64 * (i / 64) + i % 64 = i := by omega
  simp only [this, e]
end Go.Proofs.YtipbaajdnnddgaaGreat.Al
