/- The walk of the law TermPlays, itself. -/
import Derived.Test.YtnlcnhanhompnaaTf
import Derived.Deep.DeepCutAuto
import Derived.Deep.CutBlock
namespace Go.Proofs.Ytnlcnhanhompnaa
open Go.RowKit Go.Tn

set_option maxHeartbeats 4000000 in
set_option maxRecDepth 40000 in
theorem plays_walk (w : World) (x y : Int) (ao : Option Addr) (len cap : Nat) (ks cs : Nat → Int) (ts : Nat → Nat) (htt : ∀ i, ts i < 18446744073709551616) (hz : DosIn w ao len ks cs ts) (hlc : len ≤ cap) (hcm : cap ≤ maxLen) :
    Calls Try.prog 4 #[.int .i64 x, .int .i64 y, .slice ao len cap] w fun e w' => e = .returned (.bool true) ∧ Below w.heap.size w w' := by
  unfold maxLen at hcm
  by_cases hx : 1 ≤ x ∧ x ≤ 1024
  · by_cases hy : 1 ≤ y ∧ y ≤ 16
    · obtain ⟨t, rfl⟩ := Int.eq_ofNat_of_zero_le (show 0 ≤ x by omega)
      obtain ⟨r, rfl⟩ := Int.eq_ofNat_of_zero_le (show 0 ≤ y by omega)
      have ht1 : 1 ≤ t := by omega
      have ht2 : t ≤ 1024 := by omega
      have hr1 : 1 ≤ r := by omega
      have hr2 : r ≤ 16 := by omega
      have hmul : t * r ≤ 16384 := Nat.le_trans (Nat.mul_le_mul ht2 hr2) (by decide)
      have hmul1 : 1 ≤ t * r := Nat.mul_pos ht1 hr1
      have hmi : (t : Int) * (r : Int) ≤ 16384 := by rw [← Int.natCast_mul]; omega
      have hmi1 : 0 ≤ (t : Int) * (r : Int) := by rw [← Int.natCast_mul]; omega
      have hx1 : 1 ≤ (t : Int) := by omega
      have hx2 : (t : Int) ≤ 1024 := by omega
      have hy1 : 1 ≤ (r : Int) := by omega
      have hy2 : (r : Int) ≤ 16 := by omega
      clear hx hy
      go_enter Try.func4, Try.ntmps4
      go_wp2_with fail
      refine (span_ok w t r ht1 ht2 hr1 hr2).mono ?_
      rintro e w' ⟨rfl, hw⟩
      obtain rfl := hw.symm
      clear hw
      go_wp2_with fail
      refine (newLease_ok w t ht1 ht2).mono ?_
      rintro e w1 ⟨rfl, hL1, hb1⟩
      go_wp2_with fail
      refine (newWatch_ok w1 (t * r) hmul1 hmul).mono ?_
      rintro e w2 ⟨b, m, rfl, hW2, hbb, hmm, hb2⟩
      go_upto_region 11 with (fail)
      go_wp2
      have hL2 : LeaseAt w2 w.heap.size t 0 := hL1.mod (Mod.of_below hb2) (by have := hL1.lt; omega)
      have hbl2 := hb1.trans (hb2.mono hb1.size)
      have hwlt := hL1.lt
      have e1 : ((w2.alloc (.cells #[.int .i64 t, .slice none 0 0] 44)).heap.size) = w2.heap.size + 1 := by simp
      have hst : Stood w.heap.size w ((w2.alloc (.cells #[.int .i64 t, .slice none 0 0] 44)).alloc (.cells #[.int .u64 ((t : Int) * (r : Int)), .bool false, .bool false, .bool false, .bool false, .bool false, .bool false, .bool false, .bool false, .int .u64 0, .int .u64 0, .int .u64 0, .int .u64 0, .int .u64 0, .int .u64 0, .int .u64 0, .int .u64 0] 49))
          w.heap.size w2.heap.size b m (w2.heap.size + 1) t (t * r) 0 (fun _ => none) [] := by
        have hbA : Below w2.heap.size w2 (w2.alloc (.cells #[.int .i64 t, .slice none 0 0] 44)) := (Below.refl _ _).alloc (Nat.le_refl _) _
        have hbB : Below w2.heap.size w2 ((w2.alloc (.cells #[.int .i64 t, .slice none 0 0] 44)).alloc (.cells #[.int .u64 ((t : Int) * (r : Int)), .bool false, .bool false, .bool false, .bool false, .bool false, .bool false, .bool false, .bool false, .int .u64 0, .int .u64 0, .int .u64 0, .int .u64 0, .int .u64 0, .int .u64 0, .int .u64 0, .int .u64 0] 49)) := hbA.alloc hbA.size _
        have hs2 := hb2.size
        refine ⟨.slice none 0 0, [], 0, _, ⟨hL2.mod (Mod.of_below hbB) (by have := hL2.lt; omega), ⟨heap_alloc_of heap_alloc_at, ⟨rfl, .inl ⟨rfl, rfl⟩⟩, (fun r hr => by cases hr), by omega, ht1, ht2, (fun s hs => by cases hs), by simp⟩, hW2.mod (Mod.of_below hbB) (by have := lt_of_block hW2.blk; omega) (by have := lt_of_block hW2.map; omega), ⟨by rw [← e1]; exact heap_alloc_at, rfl, by rw [Int.natCast_mul]; rfl, fun c hc => ?_, fun c hc => ⟨0, ?_, fun t ht => by cases ht⟩⟩, Nat.le_refl _, hbl2.trans (hbB.mono hbl2.size), Nat.le_refl _, by omega, by omega, by omega⟩⟩
        · obtain rfl | rfl | rfl | rfl | rfl | rfl | rfl | rfl : c = 0 ∨ c = 1 ∨ c = 2 ∨ c = 3 ∨ c = 4 ∨ c = 5 ∨ c = 6 ∨ c = 7 := by omega
          all_goals rfl
        · obtain rfl | rfl | rfl | rfl | rfl | rfl | rfl | rfl : c = 0 ∨ c = 1 ∨ c = 2 ∨ c = 3 ∨ c = 4 ∨ c = 5 ∨ c = 6 ∨ c = 7 := by omega
          all_goals rfl
      clear hL1 hb1 hW2 hbb hmm hb2 hL2 hbl2 hwlt e1
      go_loopw [16] (fun c wr => ∃ i : Nat, i ≤ 40 ∧ c = .int .i64 i ∧ ∃ H ss, Stood w.heap.size w wr w.heap.size w2.heap.size b m (w2.heap.size + 1) t (t * r) i H ss) (fun c _ => 40 - (intOf c).toNat)
      case atStart => exact ⟨0, Nat.zero_le _, rfl, _, _, hst⟩
      case round =>
        clear hst
        obtain ⟨i, hi40, rfl, H, ss, v, L, clk, C, hS⟩ := hrel
        by_cases hgo : i < len ∧ i < 40
        · obtain ⟨hil, hi4⟩ := hgo
          obtain ⟨bh, off, rfl, hbh, hcs⟩ := hz (by omega)
          obtain ⟨hc1, hc2, hc3⟩ := hcs i hil
          have HT := Lib.hid (htt i)
          have hil' : (i : Int) < (len : Int) := by omega
          have hi4' : (i : Int) < 40 := by omega
          generalize ks i = kd at *
          generalize cs i = c at *
          generalize ts i = tt at *
          have d1 : wr.cell? ⟨bh, off + i * 3, none⟩ = some (.int .i64 kd) := by rw [hS.bel.cell (p := ⟨bh, off + i * 3, none⟩) hbh]; exact hc1
          have d2 : wr.cell? ⟨bh, off + i * 3 + 1, none⟩ = some (.int .i64 c) := by rw [hS.bel.cell (p := ⟨bh, off + i * 3 + 1, none⟩) hbh]; exact hc2
          have d3 : wr.cell? ⟨bh, off + i * 3 + 2, none⟩ = some (.int .u64 tt) := by rw [hS.bel.cell (p := ⟨bh, off + i * 3 + 2, none⟩) hbh]; exact hc3
          clear hcs hc1 hc2 hc3 hz htt
          have hE0 : EndAt (wr.alloc (.cells #[.int .i64 kd, .int .i64 c, .int .u64 tt] 51)) wr.heap.size kd c tt := ⟨heap_alloc_at⟩
          have hS0 := hS.next (w' := wr.alloc (.cells #[.int .i64 kd, .int .i64 c, .int .u64 tt] 51)) ((Below.refl _ _).alloc (Nat.le_refl _) _) (Nat.le_refl _)
          clear hS
          go_upto_block 2 with (fail)
          obtain ⟨bc, hbc⟩ : ∃ bc, wr.heap.size = bc := ⟨_, rfl⟩
          obtain ⟨w4, hw4⟩ : ∃ w4, wr.alloc (.cells #[.int .i64 kd, .int .i64 c, .int .u64 tt] 51) = w4 := ⟨_, rfl⟩
          rw [hbc, hw4] at hE0
          rw [hw4] at hS0
          rw [hw4, hbc]
          clear hw4 hbc d1 d2 d3
          have hE4 := hE0
          have hS4 := hS0
          clear hE0 hS0
          go_cut [18] (fun s wx => s = .bool true ∧ EndAt wx bc kd c tt ∧ ∃ H ss, Stood w.heap.size w wx w.heap.size w2.heap.size b m (w2.heap.size + 1) t (t * r) (i + 1) H ss)
          case first =>
            obtain hk | hk | hk | hk | hk | ⟨hk0, hk1, hk2, hk3, hk4⟩ : kd = 0 ∨ kd = 1 ∨ kd = 2 ∨ kd = 3 ∨ kd = 4 ∨ (kd ≠ 0 ∧ kd ≠ 1 ∧ kd ≠ 2 ∧ kd ≠ 3 ∧ kd ≠ 4) := by omega
            case inl => as_aux_lemma =>
              subst hk
              go_upto_region 22 with (fail)
              have hsl : ss.length ≤ 99 := by have := hS4.len; omega
              refine wp_region_x (fun w' => w'.cell? ⟨bc, 2, none⟩ = some (.int .u64 tt)) [(0, 1), (1, 1), (2, 0), (4, 1), (5, 1), (6, 0), (3, 2), (7, 2), (8, 1), (9, 1)] (by kernel_rfl) (by kernel_rfl) (by intro d v c a w h; cases d <;> exact h) ?_
              have f2 := hE4.c2
              iterate 2 (refine x_take rfl (fun K hK => ?_); go_simp; refine hK _ ?_; clear hK K)
              refine x_read rfl f2 (fun w' h => exec_load1 scalar64 rfl h) ?_
              iterate 2 (refine x_take rfl (fun K hK => ?_); go_simp; refine hK _ ?_; clear hK K)
              refine x_read rfl f2 (fun w' h => exec_load1 scalar64 rfl h) ?_
              by_cases hT : tt ≤ 1099511627775
              case' pos =>
                refine x_show' rfl (fun K hK => ?_)
                go_simp
                refine (ack_ok _ w.heap.size t _ (hS4.drewN 1).le tt hT).mono ?_
                rintro e w5 ⟨rfl, hl5, hm5⟩
                obtain ⟨n1, n2, n3, n4, n5, n6⟩ := hE4.nes hS4
                have hE5 := hE4.mod (mod_of_drew hm5) n1
                refine hK _ _ hE5.c2 ?_
                clear hK K
                obtain ⟨hr5, _⟩ := hS4.lease (mod_of_drew hm5)
                refine x_show' rfl (fun K hK => ?_)
                go_simp
                refine (rAck_ok _ w5 _ t v ss hr5 hsl tt hT).mono ?_
                rintro e w6 ⟨rfl, ⟨v6, hr6⟩, hm6⟩
                have hE6 := hE5.mod hm6 (fun e => e.elim n2 n6)
                have hS6 := hS4.ack (mod_of_drew hm5) hl5 hm6 hr6
                refine hK _ _ hE6.c2 ?_
                clear hK K hE4 hS4 hE5 hr5 hl5 hm5 hr6 hm6 n1 n2 n3 n4 n5 n6
              case' neg =>
                refine x_show' rfl (fun K hK => ?_)
                go_simp
                refine (ack_no _ w.heap.size t _ (hS4.drewN 1).le tt (by omega)).mono ?_
                rintro e w5 ⟨rfl, hw5⟩
                obtain rfl := hw5.symm
                clear hw5
                refine hK _ _ f2 ?_
                clear hK K
                refine x_show' rfl (fun K hK => ?_)
                go_simp
                refine (rAck_no _ _ tt (by omega)).mono ?_
                rintro e w6 ⟨rfl, hw6⟩
                obtain rfl := hw6.symm
                clear hw6
                have hE6 := hE4.drewN 1
                have hS6 := (hS4.drewN 1).up
                refine hK _ _ f2 ?_
                clear hK K hE4 hS4
                generalize w4.drewN 1 = w6 at *
              all_goals
                iterate 2 (refine x_take rfl (fun K hK => ?_); go_simp; refine hK _ ?_; clear hK K)
                refine x_nil ?_
                clear f2 hT
              all_goals
                go_wp2
                go_meet
                case rel => first | exact ⟨rfl, hE6, _, _, _, _, _, _, hS6⟩ | (rw [World.drewN_drewN] at hE6 hS6; exact ⟨rfl, hE6, _, _, _, _, _, _, hS6⟩)
            case inr.inl => as_aux_lemma =>
              subst hk
              go_upto_region 24 with (fail)
              refine wp_region_x (fun w' => w'.cell? ⟨bc, 2, none⟩ = some (.int .u64 tt)) [(0, 1), (1, 1), (2, 0), (4, 1), (5, 1), (6, 0), (3, 2), (7, 2), (8, 1), (9, 1)] (by kernel_rfl) (by kernel_rfl) (by intro d v c a w h; cases d <;> exact h) ?_
              have f2 := hE4.c2
              iterate 2 (refine x_take rfl (fun K hK => ?_); go_simp; refine hK _ ?_; clear hK K)
              refine x_read rfl f2 (fun w' h => exec_load1 scalar64 rfl h) ?_
              iterate 2 (refine x_take rfl (fun K hK => ?_); go_simp; refine hK _ ?_; clear hK K)
              refine x_read rfl f2 (fun w' h => exec_load1 scalar64 rfl h) ?_
              obtain ⟨lv, hlv⟩ : ∃ lv, decide (tt < latest t ss ∧ tt ≤ 1099511627775) = lv := ⟨_, rfl⟩
              refine x_show' rfl (fun K hK => ?_)
              go_simp
              refine (live_any _ w.heap.size t _ (hS4.drewN 1).le tt).mono ?_
              rintro e w5 ⟨he, hw5⟩
              rw [hlv] at he
              subst he
              obtain rfl := hw5.symm
              clear hw5
              refine hK _ _ f2 ?_
              clear hK K
              refine x_show' rfl (fun K hK => ?_)
              go_simp
              refine (rLive_any _ _ _ t v ss (hS4.drewN 1).rl tt).mono ?_
              rintro e w6 ⟨he, nd, hw6⟩
              rw [hlv] at he
              subst he
              subst hw6
              have hE6 := (hE4.drewN 1).drewN nd
              have hS6 := ((hS4.drewN 1).drewN nd).up
              refine hK _ _ f2 ?_
              clear hK K hlv hE4 hS4
              iterate 2 (refine x_take rfl (fun K hK => ?_); go_simp; refine hK _ ?_; clear hK K)
              refine x_nil ?_
              clear f2
              all_goals
                go_wp2
                go_meet
                case rel => first | exact ⟨rfl, hE6, _, _, _, _, _, _, hS6⟩ | (rw [World.drewN_drewN] at hE6 hS6; exact ⟨rfl, hE6, _, _, _, _, _, _, hS6⟩)
            case inr.inr.inl => as_aux_lemma =>
              subst hk
              go_upto_region 26 with (fail)
              go_wp2_with fail
              refine (lapse_any w4 w.heap.size t _ hS4.le).mono ?_
              rintro e w5 ⟨rfl, hl5, hm5⟩
              obtain ⟨n1, n2, n3, n4, n5, n6⟩ := hE4.nes hS4
              have hE5 := hE4.mod hm5 n1
              obtain ⟨hr5, _⟩ := hS4.lease hm5
              have f1 : w5.cell? ⟨w2.heap.size, 1, none⟩ = some v := cell_of hr5.blk rfl
              have f2 : w5.frozen? ⟨w2.heap.size, 1, none⟩ = false := free_of hr5.blk
              have hE6 : EndAt (w5.setCell ⟨w2.heap.size, 1, none⟩ (.slice none 0 0)) bc 2 c tt := hE5.mod ((Mod.refl (fun x => x = w2.heap.size) w5).setCell _ _ (fun _ => rfl)) n2
              have hS6 := hS4.lapse hm5 hl5 rfl
              clear hE4 hS4 hE5 hr5 hl5 hm5 n1 n2 n3 n4 n5 n6
              all_goals
                go_wp2
                go_meet
                case rel => first | exact ⟨rfl, hE6, _, _, _, _, _, _, hS6⟩ | (rw [World.drewN_drewN] at hE6 hS6; exact ⟨rfl, hE6, _, _, _, _, _, _, hS6⟩)
            case inr.inr.inr.inl => as_aux_lemma =>
              subst hk
              go_upto_region 29 with (fail)
              refine wp_region_x (fun w' => w'.cell? ⟨bc, 1, none⟩ = some (.int .i64 c) ∧ w'.cell? ⟨bc, 2, none⟩ = some (.int .u64 tt)) [(0, 1), (1, 1), (2, 0), (3, 1), (4, 0), (6, 1), (7, 1), (8, 0), (9, 1), (10, 0), (5, 2), (11, 2), (12, 1), (13, 1)] (by kernel_rfl) (by kernel_rfl) (by intro d v c a w h; cases d <;> exact h) ?_
              have f1 := hE4.c1
              have f2 := hE4.c2
              iterate 2 (refine x_take rfl (fun K hK => ?_); go_simp; refine hK _ ?_; clear hK K)
              refine x_read rfl ⟨f1, f2⟩ (fun w' h => exec_load1 scalarInt rfl h.1) ?_
              iterate 1 (refine x_take rfl (fun K hK => ?_); go_simp; refine hK _ ?_; clear hK K)
              refine x_read rfl ⟨f1, f2⟩ (fun w' h => exec_load1 scalar64 rfl h.2) ?_
              iterate 2 (refine x_take rfl (fun K hK => ?_); go_simp; refine hK _ ?_; clear hK K)
              refine x_read rfl ⟨f1, f2⟩ (fun w' h => exec_load1 scalarInt rfl h.1) ?_
              iterate 1 (refine x_take rfl (fun K hK => ?_); go_simp; refine hK _ ?_; clear hK K)
              refine x_read rfl ⟨f1, f2⟩ (fun w' h => exec_load1 scalar64 rfl h.2) ?_
              obtain ⟨n1, n2, n3, n4, n5, n6⟩ := hE4.nes hS4
              by_cases hT : 0 ≤ c ∧ c < 8 ∧ tt ≤ 1099511627775
              case' pos =>
                obtain ⟨k, rfl⟩ := Int.eq_ofNat_of_zero_le hT.1
                refine x_show' rfl (fun K hK => ?_)
                go_simp
                refine (hear_ok _ b m (t * r) clk L H (hS4.drewN 1).wa k tt (by omega) hT.2.2).mono ?_
                rintro e w5 ⟨rfl, ⟨L5, clk5, hl5⟩, hm5⟩
                have hE5 := hE4.mod (mod_of_drew hm5) n4
                have hy5 := hS4.rw_.mod (mod_of_drew hm5) (fun e => hS4.nes.2.2.2.1 e.symm)
                refine hK _ _ ⟨hE5.c1, hE5.c2⟩ ?_
                clear hK K
                refine x_show' rfl (fun K hK => ?_)
                go_simp
                refine (rHear_ok w5 _ (t * r) C H hy5 k tt (by omega) hT.2.2).mono ?_
                rintro e w6 ⟨rfl, ⟨C6, hr6⟩, hm6⟩
                have hE6 := hE5.mod hm6 n5
                have hS6 := hS4.hear (mod_of_drew hm5) hl5 hm6 hr6
                refine hK _ _ ⟨hE6.c1, hE6.c2⟩ ?_
                clear hK K hE4 hS4 hE5 hy5 hl5 hm5 hr6 hm6 f1 hT
              case' neg =>
                refine x_show' rfl (fun K hK => ?_)
                go_simp
                refine (hear_no _ b m (t * r) clk L H (hS4.drewN 1).wa c tt hT).mono ?_
                rintro e w5 ⟨rfl, hw5⟩
                obtain rfl := hw5.symm
                clear hw5
                refine hK _ _ ⟨f1, f2⟩ ?_
                clear hK K
                refine x_show' rfl (fun K hK => ?_)
                go_simp
                refine (rHear_no _ _ c tt hT).mono ?_
                rintro e w6 ⟨rfl, hw6⟩
                obtain rfl := hw6.symm
                clear hw6
                have hE6 := hE4.drewN 1
                have hS6 := (hS4.drewN 1).up
                refine hK _ _ ⟨f1, f2⟩ ?_
                clear hK K hE4 hS4 f1 hT
                generalize w4.drewN 1 = w6 at *
              all_goals
                iterate 2 (refine x_take rfl (fun K hK => ?_); go_simp; refine hK _ ?_; clear hK K)
                refine x_nil ?_
                clear f2 n1 n2 n3 n4 n5 n6
              all_goals
                go_wp2
                go_meet
                case rel => first | exact ⟨rfl, hE6, _, _, _, _, _, _, hS6⟩ | (rw [World.drewN_drewN] at hE6 hS6; exact ⟨rfl, hE6, _, _, _, _, _, _, hS6⟩)
            case inr.inr.inr.inr.inl => as_aux_lemma =>
              subst hk
              go_upto_region 31 with (fail)
              refine wp_region_x (fun w' => w'.cell? ⟨bc, 2, none⟩ = some (.int .u64 tt)) [(0, 1), (1, 1), (2, 0), (4, 1), (5, 1), (6, 0), (3, 2), (7, 2), (8, 2), (9, 1)] (by kernel_rfl) (by kernel_rfl) (by intro d v c a w h; cases d <;> exact h) ?_
              have f2 := hE4.c2
              iterate 2 (refine x_take rfl (fun K hK => ?_); go_simp; refine hK _ ?_; clear hK K)
              refine x_read rfl f2 (fun w' h => exec_load1 scalar64 rfl h) ?_
              iterate 2 (refine x_take rfl (fun K hK => ?_); go_simp; refine hK _ ?_; clear hK K)
              refine x_read rfl f2 (fun w' h => exec_load1 scalar64 rfl h) ?_
              refine x_show' rfl (fun K hK => ?_)
              go_simp
              refine (late_ok _ b m (t * r) clk L H (hS4.drewN 1).wa tt HT.out).mono ?_
              rintro e w5 ⟨⟨v5, rfl, hv5⟩, hb5⟩
              have hE5 := (hE4.drewN 1).below hb5
              have hS5 := (hS4.drewN 1).next hb5 (Nat.le_refl _)
              refine hK _ _ hE5.c2 ?_
              clear hK K f2 hE4 hS4 hb5
              refine x_show' rfl (fun K hK => ?_)
              go_simp
              refine (rLate_ok w5 _ (t * r) C H hS5.rw_ hmul tt HT.out).mono ?_
              rintro e w6 ⟨⟨v6, rfl, hv6⟩, hb6⟩
              have hE6 := hE5.below hb6
              have hS6 := (hS5.next hb6 (Nat.le_refl _)).up
              have hv5' := hv5.below hb6
              refine hK _ _ hE6.c2 ?_
              clear hK K hE5 hS5 hb6 hv5
              refine x_show' rfl (fun K hK => ?_)
              go_simp
              refine (sameInts_yes w6 v5 v6 _ hv5' hv6).mono ?_
              rintro e w7 ⟨rfl, nd, rfl⟩
              refine hK _ _ hE6.c2 ?_
              clear hK K hv5' hv6
              iterate 1 (refine x_take rfl (fun K hK => ?_); go_simp; refine hK _ ?_; clear hK K)
              refine x_nil ?_
              have hE7 := hE6.drewN nd
              have hS7 := hS6.drewN nd
              clear hE6 hS6
              have hE6 := hE7
              have hS6 := hS7
              clear hE7 hS7
              all_goals
                go_wp2
                go_meet
                case rel => first | exact ⟨rfl, hE6, _, _, _, _, _, _, hS6⟩ | (rw [World.drewN_drewN] at hE6 hS6; exact ⟨rfl, hE6, _, _, _, _, _, _, hS6⟩)
            case inr.inr.inr.inr.inr => as_aux_lemma =>
              go_upto_region 18 with (fail)
              have f1 := hE4.c1
              obtain ⟨n1, n2, n3, n4, n5, n6⟩ := hE4.nes hS4
              go_wp2_with fail
              refine (forget_any w4 b m (t * r) clk L H hS4.wa c).mono ?_
              rintro e w5 ⟨rfl, ⟨L5, hl5⟩, hm5⟩
              have hE5 := hE4.mod hm5 n4
              have hy5 := hS4.rw_.mod hm5 (fun e => hS4.nes.2.2.2.1 e.symm)
              have g1 := hE5.c1
              clear f1 hE4
              by_cases hc : 0 ≤ c ∧ c < 8
              case' pos =>
                obtain ⟨k, rfl⟩ := Int.eq_ofNat_of_zero_le hc.1
                have hk8 : k < 8 := by omega
                have hk8' : (k : Int) < 8 := by omega
                have c4 : w5.cell? ⟨w2.heap.size + 1, 1 + k, none⟩ = some (.bool (H k).isSome) := cell_of hy5.blk (hy5.is_ k hk8)
                have f4 : w5.frozen? ⟨w2.heap.size + 1, 1 + k, none⟩ = false := free_of hy5.blk
                have hm6 : Mod (fun x => x = w2.heap.size + 1) w5 (w5.setCell ⟨w2.heap.size + 1, 1 + k, none⟩ (.bool false)) := (Mod.refl _ _).setCell _ _ (fun _ => rfl)
                have hE6 := (hE5.mod hm6 n5).drewN 1
                have hS6 := (hS4.forget hm5 hl5 hm6 (hy5.forget hk8)).drewN 1
                clear hS4 hE5 hl5 hm5 hm6
                go_upto_region 20 with (fail)
                refine wp_region_x (fun w' => w'.cell? ⟨bc, 1, none⟩ = some (.int .i64 k)) [(0, 1), (1, 1), (2, 0), (3, 1), (4, 1), (5, 1), (6, 3)] (by kernel_rfl) (by kernel_rfl) (by intro d v c a w h; cases d <;> exact h) ?_
                iterate 2 (refine x_take rfl (fun K hK => ?_); go_simp; refine hK _ ?_; clear hK K)
                refine x_read rfl g1 (fun w' h => exec_load1 scalarInt rfl h) ?_
                iterate 3 (refine x_take rfl (fun K hK => ?_); go_simp; refine hK _ ?_; clear hK K)
                refine x_skip rfl (exec_store1 scalarBool sizeBool rfl rfl rfl c4 f4) ?_
                refine x_nil ?_
                clear c4 f4 g1 hk8 hk8' hc hy5 n1 n2 n3 n4 n5 n6
              case' neg =>
                have hE6 := hE5
                have hS6 := hS4.forget (w2 := w5) hm5 hl5 (Mod.refl _ _) (hy5.cong (forgetH_out hc))
                by_cases h0 : c < 0
                case' pos => skip
                case' neg =>
                  have h1 : 0 ≤ c := by omega
                  have h8 : 8 ≤ c := by omega
                all_goals
                  clear hS4 hE5 hl5 hm5 hy5 hc n1 n2 n3 n4 n5 n6
                  skip
              all_goals
                go_wp2
                go_meet
                case rel => first | exact ⟨rfl, hE6, _, _, _, _, _, _, hS6⟩ | (rw [World.drewN_drewN] at hE6 hS6; exact ⟨rfl, hE6, _, _, _, _, _, _, hS6⟩)
          case rest => as_aux_lemma =>
            clear hS4 hE4 HT
            obtain ⟨rfl, hE6, H7, ss7, v7, L7, clk7, C7, hS⟩ := hcut
            obtain ⟨w6, hw6⟩ : ∃ w6, w6 = wc := ⟨_, rfl⟩
            subst hw6
            have hh := heard_any w6 b m (t * r) clk7 L7 H7 hS.wa c
            have g1 := hE6.c1
            by_cases hc : 0 ≤ c ∧ c < 8
            · obtain ⟨k, rfl⟩ := Int.eq_ofNat_of_zero_le hc.1
              have hk8 : k < 8 := by omega
              have hk8' : (k : Int) < 8 := by omega
              have cis : w6.cell? ⟨w2.heap.size + 1, 1 + k, none⟩ = some (.bool (H7 k).isSome) := cell_of hS.rw_.blk (hS.rw_.is_ k hk8)
              have hval : valOf H7 (k : Int) = (H7 k).map (fun t => Value.int .u64 (t : Int)) := by unfold valOf; rw [if_pos (by omega), Int.toNat_natCast]
              cases hH : H7 k with
              | none =>
                have hv : heardV H7 (k : Int) = .tuple #[.int .u64 0, .bool false] := by unfold heardV; rw [hval, hH]; rfl
                rw [hv] at hh
                rw [hH] at cis
                clear hv hval hH hc
                go_wp2_with fail
                refine hh.mono ?_
                rintro e w7 ⟨rfl, hw7⟩
                obtain rfl := hw7.symm
                clear hw7 hh
                go_upto_region 33 with (fail)
                go_quiet (fail)
                have hS7 := hS.drewN nq
                have hE7 := hE6.drewN nq
                clear g1 cis hS hE6
                generalize w6.drewN nq = w7 at *
                go_upto_region 34 with (fail)
                go_quiet (first
                  | (go_at_call 23; refine Calls.quiet_of_same (until_any _ w.heap.size t _ (hS7.drewN _).le))
                  | (go_at_call 24; refine Calls.quiet_of (rUntil_any _ _ _ t _ _ (hS7.drewN _).rl)))
                go_wp2
                go_roundw
                case rel => exact ⟨i + 1, by omega, by go_num, H7, ss7, v7, L7, clk7, C7, hS7.drewN _⟩
                case measure => simp [intOf]; omega
              | some a =>
                have hv : heardV H7 (k : Int) = .tuple #[.int .u64 a, .bool true] := by unfold heardV; rw [hval, hH]; rfl
                rw [hv] at hh
                rw [hH] at cis
                have HH := Lib.hid hH
                clear hv hval hH hc
                go_wp2_with fail
                refine hh.mono ?_
                rintro e w7 ⟨rfl, hw7⟩
                obtain rfl := hw7.symm
                clear hw7 hh
                go_upto_region 33 with (fail)
                go_quiet (fail)
                have hS7 := hS.drewN nq
                have hE7 := hE6.drewN nq
                clear g1 cis hS hE6
                generalize w6.drewN nq = w7 at *
                obtain ⟨a', ha, hat⟩ := hS7.rw_.at_ k hk8
                obtain rfl : a' = a := hat a HH.out
                have cat_ : w7.cell? ⟨w2.heap.size + 1, 9 + k, none⟩ = some (.int .u64 a') := cell_of hS7.rw_.blk ha
                have g1 := hE7.c1
                clear ha hat HH
                go_upto_region 34 with (fail)
                go_quiet (first
                  | (go_at_call 23; refine Calls.quiet_of_same (until_any _ w.heap.size t _ (hS7.drewN _).le))
                  | (go_at_call 24; refine Calls.quiet_of (rUntil_any _ _ _ t _ _ (hS7.drewN _).rl)))
                go_wp2
                go_roundw
                case rel => exact ⟨i + 1, by omega, by go_num, H7, ss7, v7, L7, clk7, C7, hS7.drewN _⟩
                case measure => simp [intOf]; omega
            · have hv : heardV H7 c = .tuple #[.int .u64 0, .bool false] := by unfold heardV valOf; rw [if_neg hc]
              rw [hv] at hh
              by_cases h0 : c < 0
              case' pos => have hd0 : decide (0 ≤ c) = false := by simp; omega
              case' neg =>
                have h1 : 0 ≤ c := by omega
                have h8 : 8 ≤ c := by omega
                have hd8 : decide (c < 8) = false := by simp; omega
              all_goals
                clear hv hc
                go_wp2_with fail
                refine hh.mono ?_
                rintro e w7 ⟨rfl, hw7⟩
                obtain rfl := hw7.symm
                clear hw7 hh
                go_upto_region 33 with (fail)
                go_quiet (fail)
                have hS7 := hS.drewN nq
                have hE7 := hE6.drewN nq
                clear g1 hS hE6
                generalize w6.drewN nq = w7 at *
                go_upto_region 34 with (fail)
                go_quiet (first
                  | (go_at_call 23; refine Calls.quiet_of_same (until_any _ w.heap.size t _ (hS7.drewN _).le))
                  | (go_at_call 24; refine Calls.quiet_of (rUntil_any _ _ _ t _ _ (hS7.drewN _).rl)))
                go_wp2
                go_roundw
                case rel => exact ⟨i + 1, by omega, by go_num, H7, ss7, v7, L7, clk7, C7, hS7.drewN _⟩
                case measure => simp [intOf]; omega
        · have hbl := hS.bel
          by_cases hil : i < len
          case' pos =>
            have hil' : (i : Int) < (len : Int) := by omega
            have hi6' : (40 : Int) ≤ (i : Int) := by omega
          case' neg =>
            have hil' : (len : Int) ≤ (i : Int) := by omega
            have hi6' : True := trivial
          all_goals
            clear hgo hS
            go_wp2_with fail
            refine (lives_any wr).mono ?_
            rintro e w3 ⟨rfl, hb3⟩
            go_wp2
            go_ret
            exact ⟨rfl, hbl.trans (hb3.mono hbl.size)⟩
    · have hlv := lives_any
      obtain ⟨t, rfl⟩ := Int.eq_ofNat_of_zero_le (show 0 ≤ x by omega)
      have hx1 : 1 ≤ (t : Int) := by omega
      have hx2 : (t : Int) ≤ 1024 := by omega
      have hs := span_no w (t : Int) y (fun h => hy h.2.2)
      by_cases hy1 : y < 1
      case' pos => skip
      case' neg =>
        have hy2 : 16 < y := by omega
        have hdec : decide (y ≤ 16) = false := by simp; omega
        have hy1' : 1 ≤ y := by omega
      all_goals
        clear hx hy
        go_enter Try.func4, Try.ntmps4
        go_wp2_with fail
        refine hs.mono ?_
        rintro e w' ⟨rfl, hw⟩
        obtain rfl := hw.symm
        clear hw hs
        go_wp2_with fail
        refine (newLease_ok w t (by omega) (by omega)).mono ?_
        rintro e w1 ⟨rfl, hL1, hb1⟩
        go_wp2_with fail
        refine (newWatch_zero w1).mono ?_
        rintro e w' ⟨rfl, hw⟩
        obtain rfl := hw.symm
        clear hw
        go_wp2_with fail
        refine (hlv w1).mono ?_
        rintro e w3 ⟨rfl, hb3⟩
        go_wp2
        go_ret
        exact ⟨rfl, hb1.trans (hb3.mono hb1.size)⟩
  · have hlv := lives_any
    have hs := span_no w x y (fun h => hx ⟨h.1, h.2.1⟩)
    have hn := newLease_no w x hx
    by_cases hx1 : x < 1
    case' pos => skip
    case' neg =>
      have hx2 : 1024 < x := by omega
      have hx1' : 1 ≤ x := by omega
    all_goals
      clear hx
      go_enter Try.func4, Try.ntmps4
      go_wp2_with fail
      refine hs.mono ?_
      rintro e w' ⟨rfl, hw⟩
      obtain rfl := hw.symm
      clear hw hs
      go_wp2_with fail
      refine hn.mono ?_
      rintro e w' ⟨rfl, hw⟩
      obtain rfl := hw.symm
      clear hw hn
      go_wp2_with fail
      refine (newWatch_zero w).mono ?_
      rintro e w' ⟨rfl, hw⟩
      obtain rfl := hw.symm
      clear hw
      go_wp2_with fail
      refine (hlv w).mono ?_
      rintro e w3 ⟨rfl, hb3⟩
      go_wp2
      go_ret
      exact ⟨rfl, hb3⟩
end Go.Proofs.Ytnlcnhanhompnaa
