/- The walk of the law AllocPlays. -/
import Derived.Test.YtghfaiojmpchgaaRc
import Derived.Test.YtghfaiojmpchgaaOrg
namespace Go.Proofs.Ytghfaiojmpchgaa
open Go.RowKit Go.Tn Go.Tn.Bits

/-- A list of calls that came in: kind and home. -/
def DosIn (w : World) (ao : Option Addr) (len : Nat) (ks is : Nat → Int) : Prop := 0 < len → ∃ b off, ao = some ⟨b, off, none⟩ ∧ b < w.heap.size ∧ ∀ i, i < len → w.cell? ⟨b, off + i * 2, none⟩ = some (.int .i64 (ks i)) ∧ w.cell? ⟨b, off + i * 2 + 1, none⟩ = some (.int .i64 (is i))

theorem rNew_no (w : World) (n : Int) (h : ¬ (1 ≤ n ∧ n ≤ 1024)) : Calls Try.prog 14 #[.int .i64 n] w
    fun e w' => e = .returned (.tuple #[.pointer none, .int .i64 2]) ∧ w' = w := by
  by_cases h1 : n < 1
  · go_enter Try.func14, Try.ntmps14
    go_wp2
    go_ret2
    exact ⟨rfl, rfl⟩
  · have h2 : 1024 < n := by omega
    go_enter Try.func14, Try.ntmps14
    go_wp2
    go_ret2
    exact ⟨rfl, rfl⟩

theorem RAt.drew {w : World} {b bt n : Nat} {T : Nat → Bool} (h : RAt w b bt n T) : RAt w.drew b bt n T := ⟨h.blk, h.bools, h.ne, h.pos, h.le, h.out⟩
theorem RAt.drewN {w : World} {b bt n : Nat} {T : Nat → Bool} (h : RAt w b bt n T) (k : Nat) : RAt (w.drewN k) b bt n T := ⟨h.blk, h.bools, h.ne, h.pos, h.le, h.out⟩
theorem scalarInt : ScalarT Try.prog 3 := ⟨⟨_, Try.underlying3, rfl⟩⟩
theorem has_any (w : World) (b n : Nat) (T : Nat → Bool) (hM : MapAt w b n T) (i : Int) {hv : Bool} (hhv : (decide (0 ≤ i ∧ i < n) && T i.toNat) = hv) : Calls Try.prog 20 #[.pointer (some ⟨b, 0, none⟩), .int .i64 i] w
    fun e w' => e = .returned (.bool hv) ∧ ∃ k, w' = w.drewN k := by
  subst hhv
  by_cases h : 0 ≤ i ∧ i < n
  · obtain ⟨k, rfl⟩ := Int.eq_ofNat_of_zero_le h.1
    refine (has_yes w b n T hM k (by omega)).mono ?_
    rintro e w' ⟨rfl, hk⟩
    exact ⟨by simp [h.2], hk⟩
  · refine (has_no w b n T hM i h).mono ?_
    rintro e w' ⟨rfl, hk⟩
    exact ⟨by simp [h], hk⟩
theorem rHas_v (w : World) (b bt n : Nat) (T : Nat → Bool) (hR : RAt w b bt n T) (i : Int) {hv : Bool} (hhv : (decide (0 ≤ i ∧ i < n) && T i.toNat) = hv) : Calls Try.prog 21 #[.pointer (some ⟨b, 0, none⟩), .int .i64 i] w
    fun e w' => e = .returned (.bool hv) ∧ w' = w := hhv ▸ rHas_any w b bt n T hR i

/-- Both maps, side by side. -/
structure Both (B : Nat) (w : World) (b rb bt n : Nat) (T : Nat → Bool) : Prop where
  m : MapAt w b n T
  r : RAt w rb bt n T
  ne : b ≠ rb ∧ b ≠ bt
  lo : B ≤ b ∧ B ≤ rb ∧ B ≤ bt

set_option maxHeartbeats 4000000 in
set_option maxRecDepth 20000 in
theorem plays_walk (w : World) (x : Int) (ao : Option Addr) (len cap : Nat) (ks is : Nat → Int) (hz : DosIn w ao len ks is) (hlc : len ≤ cap) (hcm : cap ≤ maxLen) :
    Calls Try.prog 4 #[.int .i64 x, .slice ao len cap] w fun e w' => e = .returned (.bool true) ∧ Below w.heap.size w w' := by
  unfold maxLen at hcm
  by_cases hx : 1 ≤ x ∧ x ≤ 1024
  · obtain ⟨n, rfl⟩ := Int.eq_ofNat_of_zero_le (show 0 ≤ x by omega)
    have hn1 : 1 ≤ n := by omega
    have hn2 : n ≤ 1024 := by omega
    go_enter Try.func4, Try.ntmps4
    go_wp2_with fail
    refine (new_any w n hn1 hn2).mono ?_
    rintro e w1 ⟨rfl, rfl⟩
    have hM0 := MapAt.new (w := w) hn1 hn2
    have hb0 : Below w.heap.size w (w.alloc (.cells (mapCells n (fun _ => false)) 53)) := (Below.refl _ _).alloc (Nat.le_refl _) _
    have hs0 : w.heap.size < (w.alloc (.cells (mapCells n (fun _ => false)) 53)).heap.size := hM0.lt
    generalize w.alloc (.cells (mapCells n (fun _ => false)) 53) = w1 at *
    go_wp2_with fail
    refine (rNew_any w1 n hn1 hn2).mono ?_
    rintro e w2 ⟨rb, bt, rfl, hR, hrb, hbt, hb2⟩
    have hB : Both w.heap.size w2 w.heap.size rb bt n (fun _ => false) := ⟨hM0.below hb2 hs0, hR, ⟨by omega, by omega⟩, ⟨Nat.le_refl _, by omega, by omega⟩⟩
    have hbb : Below w.heap.size w w2 := hb0.trans (hb2.mono hb0.size)
    clear hM0 hb0 hR hb2 hrb hbt hs0
    go_wp2
    go_loopw [9] (fun c wr => ∃ i : Nat, i ≤ 60 ∧ c = .int .i64 i ∧ (∃ T, Both w.heap.size wr w.heap.size rb bt n T) ∧ Below w.heap.size w wr) (fun c _ => 60 - (intOf c).toNat)
    case atStart => exact ⟨0, Nat.zero_le _, rfl, ⟨_, hB⟩, hbb⟩
    case round =>
      obtain ⟨i, hi60, rfl, ⟨T, hB⟩, hbr⟩ := hrel
      by_cases hgo : i < len ∧ i < 60
      · obtain ⟨hil, hi6⟩ := hgo
        obtain ⟨bh, off, rfl, hbh, hcs⟩ := hz (by omega)
        obtain ⟨hc1, hc2⟩ := hcs i hil
        have hcs0 := Lib.hid hc2
        have hil' : (i : Int) < (len : Int) := by omega
        have hi6' : (i : Int) < 60 := by omega
        generalize ks i = kd at *
        generalize is i = y at *
        have hc1r : wr.cell? ⟨bh, off + i * 2, none⟩ = some (.int .i64 kd) := by rw [hbr.cell (p := ⟨bh, off + i * 2, none⟩) (by show bh < w.heap.size; omega)]; exact hc1
        have hc2r : wr.cell? ⟨bh, off + i * 2 + 1, none⟩ = some (.int .i64 y) := by rw [hbr.cell (p := ⟨bh, off + i * 2 + 1, none⟩) (by show bh < w.heap.size; omega)]; exact hc2
        clear hcs
        obtain hk | hk | hk | ⟨hk0, hk1, hk2⟩ : kd = 0 ∨ kd = 1 ∨ kd = 2 ∨ (kd ≠ 0 ∧ kd ≠ 1 ∧ kd ≠ 2) := by omega
        case' inl =>
          subst hk
          obtain ⟨ta, te, hV⟩ : ∃ ta te, takeV n T = .tuple #[.int .i64 ta, .int .i64 te] := by unfold takeV; split <;> exact ⟨_, _, rfl⟩
          go_wp2_with fail
          refine (take_any wr w.heap.size n T hB.m).mono ?_
          rintro e w3 ⟨he, hM3, hm3⟩
          rw [hV] at he
          subst he
          have hR3 : RAt w3 rb bt n T := hB.r.mod hm3 (fun e => hB.ne.1 e.symm) (fun e => hB.ne.2 e.symm)
          have hb3 : Below w.heap.size w w3 := hbr.trans (hm3.below hbr.size (fun x hx he => by omega))
          clear hm3
          go_wp2_with fail
          refine (rTake_any w3 rb bt n T hR3).mono ?_
          rintro e w4 ⟨he, hR4, hm4⟩
          rw [hV] at he
          subst he
          have hB4 : Both w.heap.size w4 w.heap.size rb bt n (takeT n T) := ⟨hM3.mod hm4 (fun e => hB.ne.2 e), hR4, hB.ne, hB.lo⟩
          have hb4 : Below w.heap.size w w4 := hb3.trans (hm4.below hb3.size (fun x hx he => by have := hB.lo.2.2; omega))
          clear hV hM3 hR3 hb3 hR4 hm4 hB hbr hc1r hc2r
          generalize takeT n T = U at *
        case' inr.inl =>
          subst hk
          go_upto_region 16 with (fail)
          refine wp_region_g (fun w' => w'.cell? ⟨bh, off + i * 2 + 1, none⟩ = some (.int .i64 y)) [(0, 1), (1, 1), (2, 1), (3, 1), (4, 1), (5, 0), (7, 1), (8, 1), (9, 1), (10, 1), (11, 1), (12, 0), (6, 2), (13, 2), (14, 1), (15, 1)] (by kernel_rfl) (by kernel_rfl) (by intro d v c a w h; cases d <;> exact h) ?_
          iterate 5 (refine g_take rfl rfl (fun K hK => ?_); go_simp; refine hK _ ?_; clear hK K)
          refine g_read rfl rfl hc2r (fun w' h => exec_load1 scalarInt rfl h) ?_
          iterate 5 (refine g_take rfl rfl (fun K hK => ?_); go_simp; refine hK _ ?_; clear hK K)
          refine g_read rfl rfl hc2r (fun w' h => exec_load1 scalarInt rfl h) ?_
          obtain ⟨ra, hra⟩ : ∃ ra, holdA n T y = ra := ⟨_, rfl⟩
          obtain ⟨U, hU⟩ : ∃ U, holdT n T y = U := ⟨_, rfl⟩
          refine g_show' rfl rfl (fun K hK => ?_)
          go_simp
          refine (hold_any _ w.heap.size n T hB.m.drew y).mono ?_
          rintro e w3 ⟨he, hM3, hm3⟩
          rw [hra] at he
          subst he
          rw [hU] at hM3
          have hR3 : RAt w3 rb bt n T := hB.r.drew.mod hm3 (fun e => hB.ne.1 e.symm) (fun e => hB.ne.2 e.symm)
          have hb3 : Below w.heap.size w w3 := (below_drewN hbr 1).trans (hm3.below hbr.size (fun x hx he => by omega))
          have hc3 : w3.cell? ⟨bh, off + i * 2 + 1, none⟩ = some (.int .i64 y) := by rw [hb3.cell (p := ⟨bh, off + i * 2 + 1, none⟩) hbh]; exact hcs0.out
          clear hm3
          refine hK _ _ hc3 ?_
          clear hK K
          refine g_show' rfl rfl (fun K hK => ?_)
          go_simp
          refine (rHold_any w3 rb bt n T hR3 y).mono ?_
          rintro e w4 ⟨he, hR4, hm4⟩
          rw [hra] at he
          subst he
          rw [hU] at hR4
          have hB4 : Both w.heap.size w4 w.heap.size rb bt n U := ⟨hM3.mod hm4 (fun e => hB.ne.2 e), hR4, hB.ne, hB.lo⟩
          have hb4 : Below w.heap.size w w4 := hb3.trans (hm4.below hb3.size (fun x hx he => by have := hB.lo.2.2; omega))
          have hc4 : w4.cell? ⟨bh, off + i * 2 + 1, none⟩ = some (.int .i64 y) := by rw [hb4.cell (p := ⟨bh, off + i * 2 + 1, none⟩) hbh]; exact hcs0.out
          refine hK _ _ hc4 ?_
          clear hK K
          iterate 2 (refine g_take rfl rfl (fun K hK => ?_); go_simp; refine hK _ ?_; clear hK K)
          refine g_nil ?_
          clear hra hU hM3 hR3 hb3 hR4 hm4 hB hbr hc1r hc2r hc3 hc4
        case' inr.inr.inl =>
          subst hk
          go_upto_region 18 with (fail)
          refine wp_region_g (fun w' => w'.cell? ⟨bh, off + i * 2 + 1, none⟩ = some (.int .i64 y)) [(0, 1), (1, 1), (2, 1), (3, 1), (4, 1), (5, 0), (7, 1), (8, 1), (9, 1), (10, 1), (11, 1), (12, 0), (6, 2), (13, 2), (14, 1), (15, 1)] (by kernel_rfl) (by kernel_rfl) (by intro d v c a w h; cases d <;> exact h) ?_
          iterate 5 (refine g_take rfl rfl (fun K hK => ?_); go_simp; refine hK _ ?_; clear hK K)
          refine g_read rfl rfl hc2r (fun w' h => exec_load1 scalarInt rfl h) ?_
          iterate 5 (refine g_take rfl rfl (fun K hK => ?_); go_simp; refine hK _ ?_; clear hK K)
          refine g_read rfl rfl hc2r (fun w' h => exec_load1 scalarInt rfl h) ?_
          obtain ⟨ra, hra⟩ : ∃ ra, giveA n T y = ra := ⟨_, rfl⟩
          obtain ⟨U, hU⟩ : ∃ U, giveT n T y = U := ⟨_, rfl⟩
          refine g_show' rfl rfl (fun K hK => ?_)
          go_simp
          refine (give_any _ w.heap.size n T hB.m.drew y).mono ?_
          rintro e w3 ⟨he, hM3, hm3⟩
          rw [hra] at he
          subst he
          rw [hU] at hM3
          have hR3 : RAt w3 rb bt n T := hB.r.drew.mod hm3 (fun e => hB.ne.1 e.symm) (fun e => hB.ne.2 e.symm)
          have hb3 : Below w.heap.size w w3 := (below_drewN hbr 1).trans (hm3.below hbr.size (fun x hx he => by omega))
          have hc3 : w3.cell? ⟨bh, off + i * 2 + 1, none⟩ = some (.int .i64 y) := by rw [hb3.cell (p := ⟨bh, off + i * 2 + 1, none⟩) hbh]; exact hcs0.out
          clear hm3
          refine hK _ _ hc3 ?_
          clear hK K
          refine g_show' rfl rfl (fun K hK => ?_)
          go_simp
          refine (rGive_any w3 rb bt n T hR3 y).mono ?_
          rintro e w4 ⟨he, hR4, hm4⟩
          rw [hra] at he
          subst he
          rw [hU] at hR4
          have hB4 : Both w.heap.size w4 w.heap.size rb bt n U := ⟨hM3.mod hm4 (fun e => hB.ne.2 e), hR4, hB.ne, hB.lo⟩
          have hb4 : Below w.heap.size w w4 := hb3.trans (hm4.below hb3.size (fun x hx he => by have := hB.lo.2.2; omega))
          have hc4 : w4.cell? ⟨bh, off + i * 2 + 1, none⟩ = some (.int .i64 y) := by rw [hb4.cell (p := ⟨bh, off + i * 2 + 1, none⟩) hbh]; exact hcs0.out
          refine hK _ _ hc4 ?_
          clear hK K
          iterate 2 (refine g_take rfl rfl (fun K hK => ?_); go_simp; refine hK _ ?_; clear hK K)
          refine g_nil ?_
          clear hra hU hM3 hR3 hb3 hR4 hm4 hB hbr hc1r hc2r hc3 hc4
        case' inr.inr.inr =>
          go_wp2_with fail
          refine (free_any wr w.heap.size n T hB.m).mono ?_
          rintro e w3 ⟨rfl, hw3⟩
          obtain rfl := hw3.symm
          clear hw3
          go_wp2_with fail
          refine (rFree_any wr rb bt n T hB.r).mono ?_
          rintro e w3 ⟨rfl, hw3⟩
          obtain rfl := hw3.symm
          clear hw3 hc1r hc2r
          have hB4 := hB
          have hb4 := hbr
          clear hB hbr
          obtain ⟨U, hU⟩ : ∃ U, U = T := ⟨_, rfl⟩
          subst hU
          obtain ⟨w4, hw4⟩ : ∃ w4, w4 = wr := ⟨_, rfl⟩
          subst hw4
        all_goals
          go_upto_region 19 with (fail)
          have hc2 := hcs0.out
          have hc2r : w4.cell? ⟨bh, off + i * 2 + 1, none⟩ = some (.int .i64 y) := by rw [hb4.cell (p := ⟨bh, off + i * 2 + 1, none⟩) (by show bh < w.heap.size; omega)]; exact hc2
          refine wp_region_g (fun w' => w'.cell? ⟨bh, off + i * 2 + 1, none⟩ = some (.int .i64 y)) [(0, 1), (1, 1), (2, 1), (3, 1), (5, 1), (4, 2), (6, 2), (7, 1), (8, 1), (9, 1), (10, 1), (11, 1), (12, 1), (13, 1), (14, 1), (15, 0), (17, 1), (18, 1), (19, 1), (20, 1), (21, 1), (22, 0), (16, 2), (23, 2), (24, 1), (25, 1), (26, 1), (27, 1), (29, 1), (28, 2), (30, 2), (31, 2), (32, 1), (33, 1)] (by kernel_rfl) (by kernel_rfl) (by intro d v c a w h; cases d <;> exact h) ?_
          iterate 5 (refine g_take rfl rfl (fun K hK => ?_); go_simp; refine hK _ ?_; clear hK K)
          -- Free, on both sides
          refine g_show' rfl rfl (fun K hK => ?_)
          go_simp
          refine (free_any _ w.heap.size n U hB4.m.drew).mono ?_
          rintro e w5 ⟨rfl, hw5⟩
          obtain rfl := hw5.symm
          clear hw5
          refine hK _ _ hc2r ?_
          clear hK K
          refine g_show' rfl rfl (fun K hK => ?_)
          go_simp
          refine (rFree_any _ rb bt n U hB4.r.drew).mono ?_
          rintro e w5 ⟨rfl, hw5⟩
          obtain rfl := hw5.symm
          clear hw5
          refine hK _ _ hc2r ?_
          clear hK K
          iterate 8 (refine g_take rfl rfl (fun K hK => ?_); go_simp; refine hK _ ?_; clear hK K)
          refine g_read rfl rfl hc2r (fun w' h => exec_load1 scalarInt rfl h) ?_
          iterate 5 (refine g_take rfl rfl (fun K hK => ?_); go_simp; refine hK _ ?_; clear hK K)
          refine g_read rfl rfl hc2r (fun w' h => exec_load1 scalarInt rfl h) ?_
          -- Has, on both sides
          obtain ⟨hv, hhv⟩ : ∃ hv, (decide (0 ≤ y ∧ y < (n : Int)) && U y.toNat) = hv := ⟨_, rfl⟩
          refine g_show' rfl rfl (fun K hK => ?_)
          go_simp
          refine (has_any _ w.heap.size n U hB4.m.drew y hhv).mono ?_
          rintro e w5 ⟨rfl, nd, rfl⟩
          refine hK _ _ hc2r ?_
          clear hK K
          refine g_show' rfl rfl (fun K hK => ?_)
          go_simp
          refine (rHas_v _ rb bt n U (hB4.r.drewN _) y hhv).mono ?_
          rintro e w5 ⟨rfl, hw5⟩
          obtain rfl := hw5.symm
          clear hw5
          refine hK _ _ hc2r ?_
          clear hK K
          clear hhv
          iterate 5 (refine g_take rfl rfl (fun K hK => ?_); go_simp; refine hK _ ?_; clear hK K)
          have hB5 : Both w.heap.size (w4.drewN (1 + nd)) w.heap.size rb bt n U := ⟨hB4.m.drewN _, hB4.r.drewN _, hB4.ne, hB4.lo⟩
          have hb5 : Below w.heap.size w (w4.drewN (1 + nd)) := below_drewN hb4 _
          have hc5 : (w4.drewN (1 + nd)).cell? ⟨bh, off + i * 2 + 1, none⟩ = some (.int .i64 y) := hc2r
          clear hB4 hb4 hc2r
          generalize w4.drewN (1 + nd) = w5 at *
          -- Bytes, on both sides
          refine g_show' rfl rfl (fun K hK => ?_)
          go_simp
          refine (bytes_any w5 w.heap.size n U hB5.m).mono ?_
          rintro e w6 ⟨bs, rfl, hbs, hbsl, hb56⟩
          have hc6 : w6.cell? ⟨bh, off + i * 2 + 1, none⟩ = some (.int .i64 y) := by rw [(hb56.mono hb5.size).cell (p := ⟨bh, off + i * 2 + 1, none⟩) hbh]; exact hc5
          have hB6 : Both w.heap.size w6 w.heap.size rb bt n U := ⟨hB5.m.below hb56 hB5.m.lt, hB5.r.mod (Mod.of_below hb56) (by have := lt_of_block hB5.r.blk; omega) (by have := hB5.r.bools.lt; omega), hB5.ne, hB5.lo⟩
          have hb6 : Below w.heap.size w w6 := hb5.trans (hb56.mono hb5.size)
          clear hb56 hB5 hb5 hc5
          refine hK _ _ hc6 ?_
          clear hK K
          refine g_show' rfl rfl (fun K hK => ?_)
          go_simp
          refine (rBytes_any w6 rb bt n U hB6.r).mono ?_
          rintro e w7 ⟨bs', rfl, hbs', hbsl', hb67⟩
          have hc7 : w7.cell? ⟨bh, off + i * 2 + 1, none⟩ = some (.int .i64 y) := by rw [(hb67.mono hb6.size).cell (p := ⟨bh, off + i * 2 + 1, none⟩) hbh]; exact hc6
          have hB7 : Both w.heap.size w7 w.heap.size rb bt n U := ⟨hB6.m.below hb67 hB6.m.lt, hB6.r.mod (Mod.of_below hb67) (by have := lt_of_block hB6.r.blk; omega) (by have := hB6.r.bools.lt; omega), hB6.ne, hB6.lo⟩
          have hb7 : Below w.heap.size w w7 := hb6.trans (hb67.mono hb6.size)
          have hs1 : ByteSl w7 (.slice (some ⟨bs, 0, none⟩) 128 128) (byteList U) := ByteSl.of ((hb67.block bs (lt_of_block hbs)).trans hbs)
          have hs2 : ByteSl w7 (.slice (some ⟨bs', 0, none⟩) 128 128) (byteList U) := ByteSl.of hbs'
          clear hb67 hB6 hb6 hc6 hbs hbs'
          refine hK _ _ hc7 ?_
          clear hK K
          refine g_show' rfl rfl (fun K hK => ?_)
          go_simp
          refine (same_any w7 _ _ (byteList U) (byteList U) hs1 hs2).mono ?_
          rintro e w8 ⟨he, nd8, rfl⟩
          rw [decide_eq_true rfl] at he
          subst he
          refine hK _ _ hc7 ?_
          clear hK K
          iterate 2 (refine g_take rfl rfl (fun K hK => ?_); go_simp; refine hK _ ?_; clear hK K)
          refine g_nil ?_
          go_wp2
          go_roundw
          case rel => exact ⟨i + 1, by omega, by go_num, ⟨U, ⟨hB7.m.drewN _, hB7.r.drewN _, hB7.ne, hB7.lo⟩⟩, below_drewN hb7 _⟩
          case measure => simp [intOf]; omega
      · by_cases hil : i < len
        case' pos =>
          have hil' : (i : Int) < (len : Int) := by omega
          have hi6' : (60 : Int) ≤ (i : Int) := by omega
        case' neg =>
          have hil' : (len : Int) ≤ (i : Int) := by omega
          have hi6' : True := trivial
        all_goals
          clear hgo
          go_wp2_with fail
          refine (lives_any wr).mono ?_
          rintro e w3 ⟨rfl, hb3⟩
          go_wp2
          go_ret
          exact ⟨rfl, hbr.trans (hb3.mono hbr.size)⟩
  · go_enter Try.func4, Try.ntmps4
    go_wp2_with fail
    refine (new_no w x hx).mono ?_
    rintro e w ⟨rfl, rfl⟩
    go_wp2_with fail
    refine (rNew_no w x hx).mono ?_
    rintro e w ⟨rfl, rfl⟩
    go_wp2
    go_loopw [9] (fun c wr => c = .int .i64 0 ∧ wr = w) (fun _ _ => 0)
    case atStart => exact ⟨rfl, rfl⟩
    case round =>
      obtain ⟨rfl, rfl⟩ := hrel
      by_cases h0 : 0 < len
      case' pos => have h0' : (0 : Int) < (len : Int) := by omega
      case' neg => have h0' : (len : Int) ≤ 0 := by omega
      all_goals
        go_wp2_with fail
        refine (lives_any wr).mono ?_
        rintro e w2 ⟨rfl, hb2⟩
        go_wp2
        go_ret
        exact ⟨rfl, hb2⟩

end Go.Proofs.Ytghfaiojmpchgaa
