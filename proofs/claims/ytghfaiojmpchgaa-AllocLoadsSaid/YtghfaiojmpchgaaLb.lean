/- Load, by the program: its walk. -/
import Derived.Test.YtghfaiojmpchgaaLa
namespace Go.Proofs.Ytghfaiojmpchgaa
open Go.RowKit Go.Tn Go.Tn.Bits

theorem or_value (T : Nat → Bool) (i : Nat) : bits .or .u64 (IntKind.u64.wrap ((pw T i (i / 8) : Nat) * 256 : Int)) ((by8 T i : Nat) : Int) = ((pw T (i + 1) (i / 8) : Nat) : Int) := by
  have h := (pw_next T i).2
  have h8 := by8_lt T i
  rw [show ((pw T i (i / 8) : Nat) * 256 : Int) = ((pw T i (i / 8) * 256 : Nat) : Int) by omega, wrap_u64 _ h, bits_or _ _ h (by omega), pw_or]

set_option maxHeartbeats 4000000 in
set_option maxRecDepth 20000 in
theorem load_any (w : World) (ao : Option Addr) (cap : Nat) (T : Nat → Bool) (hB : BytesIn w ao T) (hT : ∀ i, 1024 ≤ i → T i = false) (n : Nat) (h1 : 1 ≤ n) (h2 : n ≤ 1024) :
    Calls Try.prog 26 #[.slice ao 128 cap, .int .i64 n] w fun e w' =>
      ((∀ j, j < 1024 → n ≤ j → T j = false) → ∃ b, e = .returned (.tuple #[.pointer (some ⟨b, 0, none⟩), .int .i64 0]) ∧ MapAt w' b n T ∧ w.heap.size ≤ b) ∧ ((¬ ∀ j, j < 1024 → n ≤ j → T j = false) → e = .returned (.tuple #[.pointer none, .int .i64 4])) ∧ Below w.heap.size w w' := by
  obtain ⟨bb, off, rfl, hbb, hcs⟩ := hB
  go_enter Try.func26, Try.ntmps26
  go_wp2_with fail
  refine (new_any w n h1 h2).mono ?_
  rintro e w1 ⟨rfl, rfl⟩
  have hX : (w.alloc (.cells (mapCells n (fun _ => false)) 53)).heap[w.heap.size]? = some (.cells (partArr n T 0) 53 (0, 0)) := by rw [partArr_0]; exact heap_alloc_at
  have hb0 : Below w.heap.size w (w.alloc (.cells (mapCells n (fun _ => false)) 53)) := (Below.refl _ _).alloc (Nat.le_refl _) _
  generalize w.alloc (.cells (mapCells n (fun _ => false)) 53) = w1 at *
  go_wp2
  go_loopw [25] (fun c wr => ∃ k : Nat, k ≤ 128 ∧ c = .int .i64 k ∧ wr.heap[w.heap.size]? = some (.cells (partArr n T k) 53 (0, 0)) ∧ Below w.heap.size w wr) (fun c _ => 128 - (intOf c).toNat)
  case atStart => exact ⟨0, Nat.zero_le _, rfl, hX, hb0⟩
  case round =>
    obtain ⟨k, hk, rfl, hh, hbr⟩ := hrel
    by_cases hlt : k < 128
    · have hlt' : (k : Int) < 128 := by omega
      have hc := hcs k hlt
      have hcr : wr.cell? ⟨bb, off + k, none⟩ = some (.int .u8 (by8 T k)) := by rw [hbr.cell (p := ⟨bb, off + k, none⟩) hbb]; exact hc
      have hold : wr.cell? ⟨w.heap.size, 1 + k / 8, none⟩ = some (.int .u64 (pw T k (k / 8))) := cell_of hh (partArr_w n T k (by omega))
      have hfr : wr.frozen? ⟨w.heap.size, 1 + k / 8, none⟩ = false := free_of hh
      have hv := Lib.hid (or_value T k)
      have hset := Lib.hid (partArr_set n T k)
      have hidx : (k : Int) / 8 < 16 := by omega
      have hq : IntKind.i64.wrap ((k : Int) / 8) = (k : Int) / 8 := by simp [IntKind.wrap, IntKind.bits, IntKind.signed]; omega
      have hq0 : (0 : Int) ≤ (k : Int) / 8 := by omega
      have hqn : ((k : Int) / 8).toNat = k / 8 := by omega
      have h8 := by8_lt T k
      have h64 := pw_lt T k (k / 8)
      clear hc
      generalize pw T k (k / 8) = x at *
      generalize pw T (k + 1) (k / 8) = z at *
      generalize by8 T k = y at *
      go_upto_region 9 with (fail)
      refine wp_region_x (fun w' => w'.cell? ⟨w.heap.size, 1 + k / 8, none⟩ = some (.int .u64 x)) [(0, 1), (1, 1), (2, 1), (3, 1), (4, 1), (5, 1), (6, 1), (7, 1), (8, 1), (9, 0), (10, 1), (11, 1), (12, 1), (13, 1), (14, 1), (15, 1), (16, 1), (17, 3)] (by kernel_rfl) (by kernel_rfl) (by intro d v c a w h; cases d <;> exact h) ?_
      iterate 9 (refine x_take rfl (fun K hK => ?_); go_simp; refine hK _ ?_; clear hK K)
      refine x_read rfl hold (fun w' h => exec_load1 scalar64 rfl h) ?_
      iterate 7 (refine x_take rfl (fun K hK => ?_); go_simp; refine hK _ ?_; clear hK K)
      refine x_skip rfl (exec_store1 scalar64 size64 rfl rfl rfl hold hfr) ?_
      refine x_nil ?_
      go_wp2
      go_roundw
      case rel => exact ⟨k + 1, by omega, by go_num, by
        refine (heap_setCell_at hh).trans ?_
        rw [hv.out, hset.out], hbr.drew.setCell (Nat.le_refl _) _⟩
      case measure => simp [intOf]; omega
    · obtain rfl : k = 128 := by omega
      rw [partArr_128] at hh
      rw [show ((128 : Nat) : Int) = 128 from rfl]
      have hl : Lies wr w.heap.size 1 (wordsArr T) := fun j hj => by
        have hj' : j < 16 := by rw [wordsArr_size] at hj; exact hj
        have h1 : wr.cell? ⟨w.heap.size, 1 + j, none⟩ = some (.int .u64 (wd T j)) := cell_of hh (mapCells_w n T hj')
        rw [h1]
        have := wordsArr_get T hj'
        rw [Array.getElem?_eq_getElem hj] at this
        exact this.symm
      have hone : (wordsArr T).all (·.oneCell') = true := by
        rw [Array.all_eq_true']
        intro x hx
        simp [wordsArr] at hx
        obtain ⟨k, _, rfl⟩ := hx
        rfl
      have hsz := wordsArr_size T
      have hlw : w.heap.size < wr.heap.size := lt_of_block hh
      go_wp2_with (first
        | ((with_reducible refine wpList_loadA (aggWords T) hl ?_ ?_); rfl; go_frame)
        | ((with_reducible refine wpList_storeA_new (aggWords T) ?_ hone ?_ ?_ ?_); exact hsz.symm; rfl; rfl; go_frame)
        | fail)
      have hX2 : (wr.alloc (.cells (wordsArr T) 51)).heap[wr.heap.size]? = some (.cells (wordsArr (clr T n n)) 51 (0, 0)) := by rw [clr_self]; exact heap_alloc_at
      have hM2 : (wr.alloc (.cells (wordsArr T) 51)).heap[w.heap.size]? = some (.cells (mapCells n T) 53 (0, 0)) := heap_alloc_of hh
      have hb2 : Below w.heap.size w (wr.alloc (.cells (wordsArr T) 51)) := hbr.alloc hbr.size _
      clear hh hl hone hsz hX hb0
      have hsw := hbr.size
      generalize wr.alloc (.cells (wordsArr T) 51) = w2 at *
      clear hbr
      obtain ⟨v1, hv1⟩ : ∃ v1, v1 = wr := ⟨_, rfl⟩
      subst hv1
      go_loopw [11] (fun c wr => ∃ k : Nat, n ≤ k ∧ k ≤ 1024 ∧ c = .int .i64 k ∧ wr.heap[v1.heap.size]? = some (.cells (wordsArr (clr T n k)) 51 (0, 0)) ∧ wr.heap[w.heap.size]? = some (.cells (mapCells n T) 53 (0, 0)) ∧ Below w.heap.size w wr) (fun c _ => 1024 - (intOf c).toNat)
      case atStart => exact ⟨n, Nat.le_refl _, h2, rfl, hX2, hM2, hb2⟩
      case round =>
        obtain ⟨k, hnk, hk, rfl, hx, hm, hbq⟩ := hrel
        by_cases hlt : k < 1024
        · have hlt' : (k : Int) < 1024 := by omega
          have hold : wr.cell? ⟨v1.heap.size, k / 64, none⟩ = some (.int .u64 (wd (clr T n k) (k / 64))) := cell_of hx (wordsArr_get _ (by omega))
          have hfr : wr.frozen? ⟨v1.heap.size, k / 64, none⟩ = false := free_of hx
          have hbit := fun w => bit_any w k
          have hv := Lib.hid (show bits .andNot .u64 ((wd (clr T n k) (k / 64) : Nat) : Int) ((2 ^ (63 - k % 64) : Nat) : Int) = ((wd (clr T n (k + 1)) (k / 64) : Nat) : Int) by
            have hp : 2 ^ (63 - k % 64) < 2 ^ 64 := Nat.pow_lt_pow_right (by decide) (by omega)
            rw [bits_andNot _ _ (wd_lt _ _) hp, wd_clear, clr_next T hnk])
          have hset := Lib.hid (show (wordsArr (clr T n k)).setIfInBounds (k / 64) (.int .u64 (wd (clr T n (k + 1)) (k / 64))) = wordsArr (clr T n (k + 1)) by
            rw [clr_next T hnk]; exact wordsArr_set _ _)
          have hidx : (k : Int) / 64 < 16 := by omega
          have hq : IntKind.i64.wrap ((k : Int) / 64) = (k : Int) / 64 := by simp [IntKind.wrap, IntKind.bits, IntKind.signed]; omega
          have hq0 : (0 : Int) ≤ (k : Int) / 64 := by omega
          have hqn : ((k : Int) / 64).toNat = k / 64 := by omega
          generalize wd (clr T n k) (k / 64) = x at *
          generalize wd (clr T n (k + 1)) (k / 64) = z at *
          generalize 2 ^ (63 - k % 64) = p at *
          go_upto_region 15 with (fail)
          refine wp_region_x (fun w' => w'.cell? ⟨v1.heap.size, k / 64, none⟩ = some (.int .u64 x)) [(0, 1), (1, 1), (2, 1), (3, 0), (4, 1), (5, 2), (6, 1), (7, 1), (8, 3)] (by kernel_rfl) (by kernel_rfl) (by intro d v c a w h; cases d <;> exact h) ?_
          iterate 3 (refine x_take rfl (fun K hK => ?_); go_simp; refine hK _ ?_; clear hK K)
          refine x_read rfl hold (fun w' h => exec_load1 scalar64 rfl h) ?_
          iterate 1 (refine x_take rfl (fun K hK => ?_); go_simp; refine hK _ ?_; clear hK K)
          refine x_show' rfl (fun K hK => ?_)
          go_simp
          refine (hbit _).mono ?_
          rintro e w3 ⟨rfl, hw3⟩
          obtain rfl := hw3.symm
          clear hw3
          refine hK _ _ hold ?_
          clear hK K
          iterate 2 (refine x_take rfl (fun K hK => ?_); go_simp; refine hK _ ?_; clear hK K)
          refine x_skip rfl (exec_store1 scalar64 size64 rfl rfl rfl hold hfr) ?_
          refine x_nil ?_
          go_wp2
          go_roundw
          case rel =>
            refine ⟨k + 1, by omega, by omega, by go_num, ?_, ?_, hbq.drew.setCell hsw _⟩
            · refine (heap_setCell_at hx).trans ?_
              rw [hv.out, hset.out]
            · exact heap_setCell_of hm (show w.heap.size ≠ v1.heap.size by omega)
          case measure => simp [intOf]; omega
        · obtain rfl : k = 1024 := by omega
          have hl1 : Lies wr v1.heap.size 0 (wordsArr (clr T n 1024)) := lies_of hx
          have hl2 : Lies wr w.heap.size 1 (wordsArr T) := fun j hj => by
            have hj' : j < 16 := by rw [wordsArr_size] at hj; exact hj
            have h1 : wr.cell? ⟨w.heap.size, 1 + j, none⟩ = some (.int .u64 (wd T j)) := cell_of hm (mapCells_w n T hj')
            rw [h1]
            have := wordsArr_get T hj'
            rw [Array.getElem?_eq_getElem hj] at this
            exact this.symm
          go_upto_region 16 with (fail)
          refine wp_region_x (fun w' => Lies w' v1.heap.size 0 (wordsArr (clr T n 1024)) ∧ Lies w' w.heap.size 1 (wordsArr T)) [(0, 0), (1, 1), (2, 1), (3, 1), (4, 0), (5, 1)] (by kernel_rfl) (by kernel_rfl) (by intro d v c a w h; cases d <;> exact h) ?_
          refine x_read rfl ⟨hl1, hl2⟩ (fun w' h => exec_loadA (aggWords _) rfl h.1) ?_
          iterate 3 (refine x_take rfl (fun K hK => ?_); go_simp; refine hK _ ?_; clear hK K)
          refine x_read rfl ⟨hl1, hl2⟩ (fun w' h => exec_loadA (aggWords _) rfl h.2) ?_
          by_cases hok : ∀ j, j < 1024 → n ≤ j → T j = false
          · refine x_take rfl (fun K hK => ⟨.bool (!true), fun w' => exec_neqA (k := .u64) (f := fun k => (wd (clr T n 1024) k : Int)) (h := fun k => (wd T k : Int)) Try.underlying51 Try.underlying50 (fun w => by kernel_rfl) (by kernel_rfl) rfl rfl ((words_all T n).2 hok) w', hK _ ?_⟩)
            clear hK K
            refine x_nil ?_
            go_wp2
            go_ret2
            exact ⟨fun _ => ⟨_, rfl, ⟨hm, h1, h2, fun i hi => if h : i < 1024 then hok i h hi else hT i (by omega)⟩, Nat.le_refl _⟩, fun h => absurd hok h, hbq.drew⟩
          · have hno : ((List.range 16).all fun k => ((wd (clr T n 1024) k : Nat) : Int) == ((wd T k : Nat) : Int)) = false := by
              cases hc : ((List.range 16).all fun k => ((wd (clr T n 1024) k : Nat) : Int) == ((wd T k : Nat) : Int)) with
              | false => rfl
              | true => exact absurd ((words_all T n).1 hc) hok
            refine x_take rfl (fun K hK => ⟨.bool (!false), fun w' => exec_neqA (k := .u64) (f := fun k => (wd (clr T n 1024) k : Int)) (h := fun k => (wd T k : Int)) Try.underlying51 Try.underlying50 (fun w => by kernel_rfl) (by kernel_rfl) rfl rfl hno w', hK _ ?_⟩)
            clear hK K
            refine x_nil ?_
            go_wp2
            go_ret2
            exact ⟨fun h => absurd h hok, fun _ => rfl, hbq.drew⟩
end Go.Proofs.Ytghfaiojmpchgaa
