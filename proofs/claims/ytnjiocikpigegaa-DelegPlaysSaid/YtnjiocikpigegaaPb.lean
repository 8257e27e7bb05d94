/- The walk of the law DelegPlays (under way). -/
import Derived.Test.YtnjiocikpigegaaPk
import Derived.Deep.LoopGhost
import Derived.Deep.DeepCutAuto
import Derived.Deep.CutBlock
namespace Go.Proofs.Ytnjiocikpigegaa
open Go.RowKit Go.Tn Go.Tn.Mo Go.Maps Go.Sort Go.Shelf

/-- The call's box. -/
def boxD (kd dc dm di dg : Int) : Array Value := #[.int .i64 kd, .int .i64 dc, .int .i64 dm, .int .i64 di, .int .i64 dg]
theorem aggD (kd dc dm di dg : Int) : AggT Try.prog 29 (#[.int .i64 kd, .int .i64 dc, .int .i64 dm, .int .i64 di, .int .i64 dg] : Array Value).size := ⟨⟨_, Try.underlying29, rfl⟩, by kernel_rfl⟩

set_option maxRecDepth 40000 in
set_option maxHeartbeats 16000000 in
theorem plays_walk (w : World) (v : Value) (ds : List DoR) (hv : LSl enD 5 w v ds) : Calls Try.prog 4 #[v] w fun e w' => e = .returned (.bool true) ∧ Below w.heap.size w w' := by
  obtain ⟨ao, cap, rfl, hcl, hcm, hx⟩ := hv
  unfold maxLen at hcm
  go_enter Try.func4, Try.ntmps4
  go_wp2_with fail
  refine (new_any w).mono ?_
  rintro e w2 ⟨b, m, rfl, h2, hbb, hmm, hb2⟩
  have hbx : b < w2.heap.size := h2.b_lt
  have hmx : m < w2.heap.size := h2.m_lt
  have h0x : w.heap.size ≤ w2.heap.size := hb2.size
  have hst : Pst w (w2.alloc (.cells #[.slice none 0 0] 41)) b m w2.heap.size (fun _ => 0) [] (.slice none 0 0) [] := by
    have hal : Below w2.heap.size w2 (w2.alloc (.cells #[.slice none 0 0] 41)) := (Below.refl _ _).alloc (Nat.le_refl _) _
    exact ⟨⟨_, _, h2.below hal hbx hmx⟩, Among.none, ⟨heap_alloc_at, LOut.nil (by simp), (fun r hr => by cases hr), by simp⟩, RowsOk.none, Nat.le_refl _, hb2.trans (hal.mono h0x)⟩
  have HST := Lib.hid hst
  clear h2 hb2 hst
  go_wp2
  go_loopw [5] (fun kv wr => ∃ k : Nat, k ≤ 60 ∧ kv = .int .i64 k ∧ ∃ M A sv R, A.length = k ∧ Pst w wr b m w2.heap.size M A sv R) (fun kv _ => 60 - (intOf kv).toNat)
  case atStart => exact ⟨0, by omega, rfl, _, _, _, _, rfl, HST.out⟩
  case round =>
    obtain ⟨k, hk, rfl, M, A, sv, R, hAl, hP⟩ := hrel
    clear HST
    generalize w2.heap.size = xb at *
    by_cases hgo : k < ds.length ∧ k < 60
    · obtain ⟨hkl, hk4⟩ := hgo
      have hkl' : (k : Int) < (ds.length : Int) := by omega
      have hk4' : (k : Int) < 60 := by omega
      obtain ⟨bh, off, rfl, hbh, hcs⟩ := hx (by omega)
      have hD := (hcs k _ (List.getElem?_eq_getElem hkl)).below' hP.bel hbh
      clear hcs hx
      generalize ds[k] = dd at *
      obtain ⟨kd, dc, dm, di, dg⟩ := dd
      have hD5 : Lies wr bh (off + k * 5) #[.int .i64 kd, .int .i64 dc, .int .i64 dm, .int .i64 di, .int .i64 dg] := hD
      have HD := Lib.hid hD5
      clear hD hD5
      go_upto_region 6 with (first
        | ((with_reducible refine wpList_loadA (aggD kd dc dm di dg) HD.out ?_ ?_); rfl; go_frame)
        | fail)
      have hP4 := Lib.hid (hP.keep (w' := wr.alloc (.cells #[.int .i64 kd, .int .i64 dc, .int .i64 dm, .int .i64 di, .int .i64 dg] 29)) ((Below.refl _ _).alloc (Nat.le_refl _) _))
      have hX0 : (wr.alloc (.cells #[.int .i64 kd, .int .i64 dc, .int .i64 dm, .int .i64 di, .int .i64 dg] 29)).cell? ⟨wr.heap.size, 0, none⟩ = some (.int .i64 kd) ∧ (wr.alloc (.cells #[.int .i64 kd, .int .i64 dc, .int .i64 dm, .int .i64 di, .int .i64 dg] 29)).cell? ⟨wr.heap.size, 1, none⟩ = some (.int .i64 dc) ∧ (wr.alloc (.cells #[.int .i64 kd, .int .i64 dc, .int .i64 dm, .int .i64 di, .int .i64 dg] 29)).cell? ⟨wr.heap.size, 2, none⟩ = some (.int .i64 dm) ∧ Lies (wr.alloc (.cells #[.int .i64 kd, .int .i64 dc, .int .i64 dm, .int .i64 di, .int .i64 dg] 29)) wr.heap.size 3 #[.int .i64 di, .int .i64 dg] :=
        ⟨cell_of heap_alloc_at rfl, cell_of heap_alloc_at rfl, cell_of heap_alloc_at rfl, fun j hj => by
          match j, hj with
          | 0, _ => exact cell_of heap_alloc_at rfl
          | 1, _ => exact cell_of heap_alloc_at rfl⟩
      have hX := Lib.hid hX0
      clear hX0
      have hbx4 : wr.heap.size < (wr.alloc (.cells #[.int .i64 kd, .int .i64 dc, .int .i64 dm, .int .i64 di, .int .i64 dg] 29)).heap.size := by simp
      have hxbx : xb < wr.heap.size := lt_of_block hP.rt.blk
      have hsvb : ∀ r, sv.ownBlock = some r → r ≠ wr.heap.size := fun r hr e => by have := hP.rt.own.lt hr; omega
      have hbel := hP.bel
      clear HD hP
      obtain ⟨w4, hw4⟩ : ∃ w4, wr.alloc (.cells #[.int .i64 kd, .int .i64 dc, .int .i64 dm, .int .i64 di, .int .i64 dg] 29) = w4 := ⟨_, rfl⟩
      rw [hw4] at hP4 hX hbx4
      rw [hw4]
      obtain ⟨bx, hbxe⟩ : ∃ bx, wr.heap.size = bx := ⟨_, rfl⟩
      rw [hbxe] at hX hbx4 hxbx hsvb
      rw [hbxe]
      clear hw4 hbxe
      have x0 := hX.out.1
      go_upto_block 2 with (fail)
      go_cut [7] (fun s wx => s = .bool true ∧ (wx.cell? ⟨bx, 0, none⟩ = some (.int .i64 kd) ∧ wx.cell? ⟨bx, 1, none⟩ = some (.int .i64 dc) ∧ wx.cell? ⟨bx, 2, none⟩ = some (.int .i64 dm) ∧ Lies wx bx 3 #[.int .i64 di, .int .i64 dg]) ∧ ∃ M A sv R, A.length = k + 1 ∧ Pst w wx b m xb M A sv R)
      case first =>
        obtain hk0 | hk0 | hk0 | hk0 | hk0 : kd = 0 ∨ kd = 1 ∨ kd = 2 ∨ kd = 3 ∨ (kd ≠ 0 ∧ kd ≠ 1 ∧ kd ≠ 2 ∧ kd ≠ 3) := by omega
        · as_aux_lemma =>
            subst hk0
            go_upto_region 10 with (fail)
            refine wp_region_x (fun w' => w'.cell? ⟨bx, 1, none⟩ = some (.int .i64 dc) ∧ w'.cell? ⟨bx, 2, none⟩ = some (.int .i64 dm) ∧ Lies w' bx 3 #[.int .i64 di, .int .i64 dg]) [(0, 1), (1, 1), (2, 0), (3, 1), (4, 0), (5, 1), (6, 0), (8, 1), (9, 1), (10, 0), (11, 1), (12, 0), (13, 1), (14, 0), (7, 2), (15, 2), (16, 1), (17, 1)] (by kernel_rfl) (by kernel_rfl) (by intro d v c a w h; cases d <;> exact h) ?_
            have hS : w4.drew.cell? ⟨bx, 1, none⟩ = some (.int .i64 dc) ∧ w4.drew.cell? ⟨bx, 2, none⟩ = some (.int .i64 dm) ∧ Lies w4.drew bx 3 #[.int .i64 di, .int .i64 dg] := ⟨hX.out.2.1, hX.out.2.2.1, hX.out.2.2.2⟩
            iterate 2 (refine x_take rfl (fun K hK => ?_); go_simp; refine hK _ ?_; clear hK K)
            refine x_read rfl hS (fun w' h => exec_loadA (aggF _ _) rfl h.2.2) ?_
            iterate 1 (refine x_take rfl (fun K hK => ?_); go_simp; refine hK _ ?_; clear hK K)
            refine x_read rfl hS (fun w' h => exec_load1 ⟨⟨_, Try.underlying3, rfl⟩⟩ rfl h.1) ?_
            iterate 1 (refine x_take rfl (fun K hK => ?_); go_simp; refine hK _ ?_; clear hK K)
            refine x_read rfl hS (fun w' h => exec_load1 ⟨⟨_, Try.underlying3, rfl⟩⟩ rfl h.2.1) ?_
            iterate 2 (refine x_take rfl (fun K hK => ?_); go_simp; refine hK _ ?_; clear hK K)
            refine x_read rfl hS (fun w' h => exec_loadA (aggF _ _) rfl h.2.2) ?_
            iterate 1 (refine x_take rfl (fun K hK => ?_); go_simp; refine hK _ ?_; clear hK K)
            refine x_read rfl hS (fun w' h => exec_load1 ⟨⟨_, Try.underlying3, rfl⟩⟩ rfl h.1) ?_
            iterate 1 (refine x_take rfl (fun K hK => ?_); go_simp; refine hK _ ?_; clear hK K)
            refine x_read rfl hS (fun w' h => exec_load1 ⟨⟨_, Try.underlying3, rfl⟩⟩ rfl h.2.1) ?_
            have hPd := hP4.out.drew
            obtain ⟨L, clk, hTd⟩ := hPd.tab
            refine x_show' rfl (fun K hK => ?_)
            go_simp
            refine (grant_any _ b m clk L M hTd di dg dc dm).mono ?_
            rintro e w5 ⟨rfl, h5, hm5⟩
            have hb5 := hm5.block bx (show bx < w4.heap.size from hbx4) (by omega)
            have hS5 : w5.cell? ⟨bx, 1, none⟩ = some (.int .i64 dc) ∧ w5.cell? ⟨bx, 2, none⟩ = some (.int .i64 dm) ∧ Lies w5 bx 3 #[.int .i64 di, .int .i64 dg] :=
              ⟨(World.cell?_of_block (a := ⟨bx, 1, none⟩) hb5).trans hS.1, (World.cell?_of_block (a := ⟨bx, 2, none⟩) hb5).trans hS.2.1, fun j hj => (World.cell?_of_block (a := ⟨bx, 3 + j, none⟩) hb5).trans (hS.2.2 j hj)⟩
            refine hK _ _ hS5 ?_
            clear hK K
            have hR5 := hPd.rows hmx hm5
            have hlr := hPd.len
            refine x_show' rfl (fun K hK => ?_)
            go_simp
            refine (rGrant_any w5 xb xb sv R hR5 M hPd.ok hTd.two (by omega) di dg dc dm).mono ?_
            rintro e w6 ⟨rfl, hT6⟩
            have hb6 := hT6.mod.block bx (Nat.lt_of_lt_of_le (show bx < w4.drew.heap.size from hbx4) hm5.size) (fun e => by
              rcases e with e | e
              · omega
              · exact hsvb bx e rfl)
            have hb46 : w6.heap[bx]? = w4.heap[bx]? := hb6.trans hb5
            have hS6 : w6.cell? ⟨bx, 1, none⟩ = some (.int .i64 dc) ∧ w6.cell? ⟨bx, 2, none⟩ = some (.int .i64 dm) ∧ Lies w6 bx 3 #[.int .i64 di, .int .i64 dg] :=
              ⟨(World.cell?_of_block (a := ⟨bx, 1, none⟩) hb6).trans hS5.1, (World.cell?_of_block (a := ⟨bx, 2, none⟩) hb6).trans hS5.2.1, fun j hj => (World.cell?_of_block (a := ⟨bx, 3 + j, none⟩) hb6).trans (hS5.2.2 j hj)⟩
            obtain ⟨sv', R', hP6⟩ := hPd.turn hmm h0x hbx hmx h5 hm5 hT6 (di, dg) (by omega) (hPd.am.grant (di, dg) dc dm)
            refine hK _ _ hS6 ?_
            clear hK K hS hS5
            iterate 2 (refine x_take rfl (fun K hK => ?_); go_simp; refine hK _ ?_; clear hK K)
            refine x_nil ?_
            go_wp2
            go_meet
            case rel => exact ⟨by simp, ⟨hX.out.1.symm ▸ (World.cell?_of_block (a := ⟨bx, 0, none⟩) hb46), hS6⟩, _, _, _, _, by rw [List.length_append, hAl]; rfl, hP6⟩
        · as_aux_lemma =>
            subst hk0
            go_upto_region 12 with (fail)
            refine wp_region_x (fun w' => w'.cell? ⟨bx, 1, none⟩ = some (.int .i64 dc) ∧ w'.cell? ⟨bx, 2, none⟩ = some (.int .i64 dm) ∧ Lies w' bx 3 #[.int .i64 di, .int .i64 dg]) [(0, 1), (1, 1), (2, 0), (3, 1), (4, 0), (6, 1), (7, 1), (8, 0), (9, 1), (10, 0), (5, 2), (11, 2), (12, 1), (13, 1)] (by kernel_rfl) (by kernel_rfl) (by intro d v c a w h; cases d <;> exact h) ?_
            have hS : w4.drew.cell? ⟨bx, 1, none⟩ = some (.int .i64 dc) ∧ w4.drew.cell? ⟨bx, 2, none⟩ = some (.int .i64 dm) ∧ Lies w4.drew bx 3 #[.int .i64 di, .int .i64 dg] := ⟨hX.out.2.1, hX.out.2.2.1, hX.out.2.2.2⟩
            iterate 2 (refine x_take rfl (fun K hK => ?_); go_simp; refine hK _ ?_; clear hK K)
            refine x_read rfl hS (fun w' h => exec_loadA (aggF _ _) rfl h.2.2) ?_
            iterate 1 (refine x_take rfl (fun K hK => ?_); go_simp; refine hK _ ?_; clear hK K)
            refine x_read rfl hS (fun w' h => exec_load1 ⟨⟨_, Try.underlying3, rfl⟩⟩ rfl h.1) ?_
            iterate 2 (refine x_take rfl (fun K hK => ?_); go_simp; refine hK _ ?_; clear hK K)
            refine x_read rfl hS (fun w' h => exec_loadA (aggF _ _) rfl h.2.2) ?_
            iterate 1 (refine x_take rfl (fun K hK => ?_); go_simp; refine hK _ ?_; clear hK K)
            refine x_read rfl hS (fun w' h => exec_load1 ⟨⟨_, Try.underlying3, rfl⟩⟩ rfl h.1) ?_
            have hPd := hP4.out.drew
            obtain ⟨L, clk, hTd⟩ := hPd.tab
            refine x_show' rfl (fun K hK => ?_)
            go_simp
            refine (drop_any _ b m clk L M hTd di dg dc).mono ?_
            rintro e w5 ⟨rfl, h5, hm5⟩
            have hb5 := hm5.block bx (show bx < w4.heap.size from hbx4) (by omega)
            have hS5 : w5.cell? ⟨bx, 1, none⟩ = some (.int .i64 dc) ∧ w5.cell? ⟨bx, 2, none⟩ = some (.int .i64 dm) ∧ Lies w5 bx 3 #[.int .i64 di, .int .i64 dg] :=
              ⟨(World.cell?_of_block (a := ⟨bx, 1, none⟩) hb5).trans hS.1, (World.cell?_of_block (a := ⟨bx, 2, none⟩) hb5).trans hS.2.1, fun j hj => (World.cell?_of_block (a := ⟨bx, 3 + j, none⟩) hb5).trans (hS.2.2 j hj)⟩
            refine hK _ _ hS5 ?_
            clear hK K
            have hR5 := hPd.rows hmx hm5
            have hlr := hPd.len
            refine x_show' rfl (fun K hK => ?_)
            go_simp
            refine (rDrop_any w5 xb xb sv R hR5 M hPd.ok di dg dc).mono ?_
            rintro e w6 ⟨rfl, hT6⟩
            have hb6 := hT6.mod.block bx (Nat.lt_of_lt_of_le (show bx < w4.drew.heap.size from hbx4) hm5.size) (fun e => by
              rcases e with e | e
              · omega
              · exact hsvb bx e rfl)
            have hb46 : w6.heap[bx]? = w4.heap[bx]? := hb6.trans hb5
            have hS6 : w6.cell? ⟨bx, 1, none⟩ = some (.int .i64 dc) ∧ w6.cell? ⟨bx, 2, none⟩ = some (.int .i64 dm) ∧ Lies w6 bx 3 #[.int .i64 di, .int .i64 dg] :=
              ⟨(World.cell?_of_block (a := ⟨bx, 1, none⟩) hb6).trans hS5.1, (World.cell?_of_block (a := ⟨bx, 2, none⟩) hb6).trans hS5.2.1, fun j hj => (World.cell?_of_block (a := ⟨bx, 3 + j, none⟩) hb6).trans (hS5.2.2 j hj)⟩
            obtain ⟨sv', R', hP6⟩ := hPd.turn hmm h0x hbx hmx h5 hm5 hT6 (di, dg) (by omega) (hPd.am.less (di, dg) (zero_drop M (di, dg) dc))
            refine hK _ _ hS6 ?_
            clear hK K hS hS5
            iterate 2 (refine x_take rfl (fun K hK => ?_); go_simp; refine hK _ ?_; clear hK K)
            refine x_nil ?_
            go_wp2
            go_meet
            case rel => exact ⟨by simp, ⟨hX.out.1.symm ▸ (World.cell?_of_block (a := ⟨bx, 0, none⟩) hb46), hS6⟩, _, _, _, _, by rw [List.length_append, hAl]; rfl, hP6⟩
        · as_aux_lemma =>
            subst hk0
            have hPd := hP4.out.drew
            obtain ⟨FL, hFL, _, _⟩ := hPd.asks
            have HF := Lib.hid hFL
            have hlr := hPd.len
            have HP := Lib.hid hPd
            have hS0 : w4.drew.cell? ⟨bx, 1, none⟩ = some (.int .i64 dc) := hX.out.2.1
            clear hPd hFL
            go_upto_region 14 with (fail)
            refine wp_region_g (fun w' => w'.cell? ⟨bx, 1, none⟩ = some (.int .i64 dc)) [(0, 1), (1, 0), (2, 1), (3, 1), (4, 1), (5, 1), (6, 0), (7, 2), (8, 1), (9, 1), (10, 1), (11, 1), (12, 1), (13, 0), (14, 1), (15, 1), (16, 1), (17, 1), (18, 0), (20, 1), (21, 1), (22, 0), (19, 2), (23, 2), (24, 2), (25, 1), (26, 1), (27, 1)] (by kernel_rfl) (by kernel_rfl) (by intro d v c a w h; cases d <;> exact h) ?_
            iterate 1 (refine g_take rfl rfl (fun K hK => ?_); go_simp; refine hK _ ?_; clear hK K)
            refine g_read rfl rfl hS0 (fun w' h => exec_load1 ⟨⟨_, Try.underlying3, rfl⟩⟩ rfl h) ?_
            have hdc := drop_call HP.out (by omega) HF.out dc
            have hbd4 : bx < w4.drew.heap.size := hbx4
            by_cases hc0 : dc < 0
            · iterate 4 (refine g_take rfl rfl (fun K hK => ?_); go_simp; refine hK _ ?_; clear hK K)
              refine g_read rfl rfl hS0 (fun w' h => exec_load1 ⟨⟨_, Try.underlying3, rfl⟩⟩ rfl h) ?_
              refine g_show' rfl rfl (fun K hK => ?_)
              go_simp
              refine hdc.mono ?_
              rintro e w5 ⟨⟨v5, rfl, hR5⟩, h5, hm5⟩
              have hof := ofL_neg M FL hc0
              have hdm := dropCM_neg M hc0
              rw [hof] at hR5
              rw [hdm] at h5
              obtain ⟨ao5, cap5, hv5, _⟩ := hR5.sl
              have hv5' : v5 = .slice ao5 0 cap5 := hv5
              clear hv5 hR5 hof hdm hdc
              subst hv5'
              have hb5 := hm5.block bx hbd4 (by omega)
              have hS5 : w5.cell? ⟨bx, 1, none⟩ = some (.int .i64 dc) := (World.cell?_of_block (a := ⟨bx, 1, none⟩) hb5).trans hS0
              refine hK _ _ hS5 ?_
              clear hK K
              iterate 4 (refine g_take rfl rfl (fun K hK => ?_); go_simp; refine hK _ ?_; clear hK K)
              iterate 14 (refine g_offK rfl rfl (fun _ => hS5) (fun K hK => ?_); go_simp; refine hK _ ?_; clear hK K)
              iterate 2 (refine g_take rfl rfl (fun K hK => ?_); go_simp; refine hK _ ?_; clear hK K)
              refine g_nil ?_
              have hR5 := HP.out.rows hmx hm5
              obtain ⟨sv', R', hP6⟩ := HP.out.turn hmm h0x hbx hmx h5 hm5 (hR5.stay HP.out.ok (Below.refl _ _) R.length (Nat.le_refl _)) (di, dg) (by omega) (HP.out.am.less (di, dg) fun _ h => h)
              have HP6 := Lib.hid hP6
              have HB5 := Lib.hid hb5
              clear hP6 hb5 hR5 h5 hm5 hS0
              go_wp2
              go_loopg [] 0 (fun _ wr => wr = w5)
              case atStart => rfl
              case round =>
                obtain rfl := hrel
                go_wp2
                go_meet
                case rel => exact ⟨by simp, ⟨(World.cell?_of_block (a := ⟨bx, 0, none⟩) HB5.out).trans hX.out.1, (World.cell?_of_block (a := ⟨bx, 1, none⟩) HB5.out).trans hX.out.2.1, (World.cell?_of_block (a := ⟨bx, 2, none⟩) HB5.out).trans hX.out.2.2.1, fun j hj => (World.cell?_of_block (a := ⟨bx, 3 + j, none⟩) HB5.out).trans (hX.out.2.2.2 j hj)⟩, _, _, _, _, by rw [List.length_append, hAl]; rfl, HP6.out⟩
            · have hc1 : 0 ≤ dc := by omega
              iterate 2 (refine g_take rfl rfl (fun K hK => ?_); go_simp; refine hK _ ?_; clear hK K)
              iterate 6 (refine g_offK rfl rfl (fun _ => hS0) (fun K hK => ?_); go_simp; refine hK _ ?_; clear hK K)
              iterate 3 (refine g_take rfl rfl (fun K hK => ?_); go_simp; refine hK _ ?_; clear hK K)
              refine g_read rfl rfl hS0 (fun w' h => exec_load1 ⟨⟨_, Try.underlying3, rfl⟩⟩ rfl h) ?_
              iterate 4 (refine g_take rfl rfl (fun K hK => ?_); go_simp; refine hK _ ?_; clear hK K)
              refine g_read rfl rfl hS0 (fun w' h => exec_load1 ⟨⟨_, Try.underlying3, rfl⟩⟩ rfl h) ?_
              iterate 2 (refine g_take rfl rfl (fun K hK => ?_); go_simp; refine hK _ ?_; clear hK K)
              refine g_read rfl rfl hS0 (fun w' h => exec_load1 ⟨⟨_, Try.underlying3, rfl⟩⟩ rfl h) ?_
              refine g_show' rfl rfl (fun K hK => ?_)
              go_simp
              refine hdc.mono ?_
              rintro e w5 ⟨⟨v5, rfl, hR5⟩, h5, hm5⟩
              have hb5 := hm5.block bx hbd4 (by omega)
              have hS5 : w5.cell? ⟨bx, 1, none⟩ = some (.int .i64 dc) := (World.cell?_of_block (a := ⟨bx, 1, none⟩) hb5).trans hS0
              refine hK _ _ hS5 ?_
              clear hK K hS0 hdc
              have hRT5 := HP.out.rows hmx hm5
              refine g_show' rfl rfl (fun K hK => ?_)
              go_simp
              refine (rOf_any w5 xb xb sv R hRT5 dc).mono ?_
              rintro e w6 ⟨⟨v6, l6, rfl, hR6, hs6, hl6⟩, hb6⟩
              have hl6' : l6 = ofL M FL dc := srt_uniq hs6 (ofL_srt HF.out dc) fun f => (hl6 f).trans (sel_of HP.out.ok HF.out hc1 f)
              rw [hl6'] at hR6
              have hbx5 : bx < w5.heap.size := World.block_lt_of_cell? w5 _ hS5
              have hS6 : w6.cell? ⟨bx, 1, none⟩ = some (.int .i64 dc) := (hb6.cell (p := ⟨bx, 1, none⟩) hbx5).trans hS5
              have hL5 := hR5.sl.below hb6
              refine hK _ _ hS6 ?_
              clear hK K hs6 hl6 hl6' hR5
              refine g_show' rfl rfl (fun K hK => ?_)
              go_simp
              refine (same_any w6 v5 v6 _ hL5 hR6.sl).mono ?_
              rintro e w7 ⟨rfl, hb7⟩
              have hbx6 : bx < w6.heap.size := World.block_lt_of_cell? w6 _ hS6
              have hS7 : w7.cell? ⟨bx, 1, none⟩ = some (.int .i64 dc) := (hb7.cell (p := ⟨bx, 1, none⟩) hbx6).trans hS6
              refine hK _ _ hS7 ?_
              clear hK K hL5 hR6 hS6
              have hb57 : Below w5.heap.size w5 w7 := hb6.trans (hb7.mono hb6.size)
              have hT7 : Turned w5 w7 xb xb sv (dropK M (ofL M FL dc) dc 0) R.length := by
                rw [dropK_zero]
                exact hRT5.stay HP.out.ok hb57 R.length (Nat.le_refl _)
              obtain ⟨DL, hDL⟩ : ∃ DL, ofL M FL dc = DL := ⟨_, rfl⟩
              rw [hDL] at hT7
              have HDL := Lib.hid hDL
              have HT7 := Lib.hid hT7
              have HB5 := Lib.hid hb5
              have HM5 := Lib.hid hm5
              have H5 := Lib.hid h5
              have hsvx : ∀ x, sv.ownBlock = some x → x < w5.heap.size := fun x hx => hRT5.own.lt hx
              have HSV := Lib.hid hsvx
              clear hDL hT7 hb57 hb6 hb7 hRT5 hbx6 hsvx hb5 hm5 h5
              iterate 3 (refine g_take rfl rfl (fun K hK => ?_); go_simp; refine hK _ ?_; clear hK K)
              refine g_nil ?_
              clear hS5 hS7
              go_wp2
              go_loopg [] DL.length (fun gk wr => ∃ k : Nat, k + gk = DL.length ∧ Turned w5 wr xb xb sv (dropK M DL dc k) R.length)
              case atStart => exact ⟨0, by omega, HT7.out⟩
              case round =>
                obtain ⟨k2, hk2, hT⟩ := hrel
                have hbk : wr.heap[bx]? = w5.heap[bx]? := hT.mod.block bx hbx5 (fun e => by
                  rcases e with e | e
                  · omega
                  · exact hsvb bx e rfl)
                have x1 : wr.cell? ⟨bx, 1, none⟩ = some (.int .i64 dc) := (World.cell?_of_block (a := ⟨bx, 1, none⟩) (hbk.trans HB5.out)).trans hX.out.2.1
                have hbxr : bx < wr.heap.size := World.block_lt_of_cell? wr _ x1
                obtain ⟨svk, Rk, hRT, hokk, hlenk, hownk⟩ := hT.rows
                have hmod := hT.mod
                have HO := Lib.hid hokk
                have HW := Lib.hid hownk
                clear HT7 hT hokk hownk
                go_wp2_with fail
                refine (rOf_any wr xb xb svk Rk hRT dc).mono ?_
                rintro e w8 ⟨⟨v8, l8, rfl, hR8, hs8, hl8⟩, hb8⟩
                have hl8' : l8 = DL.drop k2 := by
                  have hok' := HO.out
                  rw [← HDL.out] at hok' ⊢
                  exact rof_drop HF.out hc1 hok' hs8 hl8
                subst hl8'
                obtain ⟨ao8, cap8, hv8, hc8, hm8, hx8⟩ := hR8.sl
                have hdl : (DL.drop k2).length = gk := by rw [List.length_drop]; omega
                rw [hdl] at hv8 hc8
                unfold maxLen at hm8
                clear hx8 hdl hs8 hl8 hR8
                subst hv8
                have hRT8 := hRT.below hb8
                have hmod8 : Mod (fun x => x = xb ∨ sv.ownBlock = some x) w5 w8 := hmod.trans (Mod.of_below hb8) (fun _ h => h) (fun x hx hh => absurd (Nat.lt_of_lt_of_le hx hmod.size) (Nat.not_lt.2 hh))
                have hS8 : w8.drew.cell? ⟨bx, 1, none⟩ = some (.int .i64 dc) := (hb8.cell (p := ⟨bx, 1, none⟩) hbxr).trans x1
                have hbx8 : bx < w8.heap.size := World.block_lt_of_cell? w8 _ hS8
                have hM8 := Lib.hid hmod8
                clear hRT hmod hb8 x1 hmod8
                by_cases hg : 0 < gk
                · have hk3 : k2 < DL.length := by omega
                  go_upto_region 16 with (fail)
                  refine wp_region_x (fun w' => w'.cell? ⟨bx, 1, none⟩ = some (.int .i64 dc)) [(0, 1), (1, 1), (2, 1), (3, 0), (7, 1), (8, 0), (4, 2), (5, 1), (6, 2), (9, 2)] (by kernel_rfl) (by kernel_rfl) (by intro d v c a w h; cases d <;> exact h) ?_
                  iterate 3 (refine x_take rfl (fun K hK => ?_); go_simp; refine hK _ ?_; clear hK K)
                  refine x_read rfl hS8 (fun w' h => exec_load1 ⟨⟨_, Try.underlying3, rfl⟩⟩ rfl h) ?_
                  iterate 1 (refine x_take rfl (fun K hK => ?_); go_simp; refine hK _ ?_; clear hK K)
                  refine x_read rfl hS8 (fun w' h => exec_load1 ⟨⟨_, Try.underlying3, rfl⟩⟩ rfl h) ?_
                  have hRT8d := hRT8.below (Below.refl w8.heap.size w8).drew
                  refine x_show' rfl (fun K hK => ?_)
                  go_simp
                  refine (rOf_any w8.drew xb xb svk Rk hRT8d dc).mono ?_
                  rintro e w9 ⟨⟨v9, l9, rfl, hR9, hs9, hl9⟩, hb9⟩
                  have hl9' : l9 = DL.drop k2 := by
                    have hok' := HO.out
                    rw [← HDL.out] at hok' ⊢
                    exact rof_drop HF.out hc1 hok' hs9 hl9
                  subst hl9'
                  have hget : (DL.drop k2)[0]? = some DL[k2] := by rw [List.getElem?_drop]; simp [hk3]
                  obtain ⟨b9, o9, c9, hv9, hlt9, hL9⟩ := hR9.sl.at_ hget
                  have hdl : (DL.drop k2).length = gk := by rw [List.length_drop]; omega
                  rw [hdl] at hv9
                  subst hv9
                  have hS9 : w9.cell? ⟨bx, 1, none⟩ = some (.int .i64 dc) := (hb9.cell (p := ⟨bx, 1, none⟩) hbx8).trans hS8
                  have hRT9 := hRT8d.below hb9
                  have hst := dropK_step (M := M) HF.out dc (k := k2) (by rw [HDL.out]; exact hk3)
                  obtain ⟨⟨fi, fg⟩, hfe⟩ : ∃ f, DL[k2] = f := ⟨_, rfl⟩
                  simp only [HDL.out] at hst
                  rw [hfe] at hL9 hst
                  have hLi : Lies w9 b9 o9 #[.int .i64 fi, .int .i64 fg] := fun j hj => by
                    have := hL9 j hj
                    rw [Nat.zero_mul, Nat.add_zero] at this
                    exact this
                  have hM9 : Mod (fun x => x = xb ∨ sv.ownBlock = some x) w5 w9 := hM8.out.trans (Mod.of_below ((Below.refl w8.heap.size w8).drew.trans hb9)) (fun _ h => h) (fun x hx hh => absurd (Nat.lt_of_lt_of_le hx hM8.out.size) (Nat.not_lt.2 hh))
                  have HM9 := Lib.hid hM9
                  have HST := Lib.hid hst
                  refine hK _ _ hS9 ?_
                  clear hK K hdl hget hL9 hs9 hl9 hR9 hb9 hRT8d hfe hM9 hst hRT8 hS8
                  have hg' : (0 : Int) < (gk : Int) := by omega
                  iterate 1 (refine x_take rfl (fun K hK => ?_); go_simp; refine hK _ ?_; clear hK K)
                  refine x_show rfl (exec_loadA (aggF _ _) rfl hLi) hS9 ?_
                  refine x_show' rfl (fun K hK => ?_)
                  go_simp
                  refine (rDrop_any w9 xb xb svk Rk hRT9 _ HO.out fi fg dc).mono ?_
                  rintro e w10 ⟨rfl, hT10⟩
                  rw [HST.out] at hT10
                  have hbx9 : bx < w9.heap.size := World.block_lt_of_cell? w9 _ hS9
                  have hb10 : w10.heap[bx]? = w9.heap[bx]? := hT10.mod.block bx hbx9 (fun e => by
                    rcases e with e | e
                    · omega
                    · rcases HW.out bx e with e | e
                      · exact hsvb bx e rfl
                      · omega)
                  have hT := Turned.trans HW.out HM9.out hT10 hlenk
                  refine hK _ _ ((World.cell?_of_block (a := ⟨bx, 1, none⟩) hb10).trans hS9) ?_
                  have HTT := Lib.hid hT
                  clear hK K hT10 hT hb10 hLi hRT9 hS9
                  refine x_nil ?_
                  go_wp2
                  go_roundg (gk - 1)
                  case rel => exact ⟨k2 + 1, by omega, HTT.out⟩
                  case measure => omega
                · have hg0 : gk = 0 := by omega
                  have hk3 : k2 = DL.length := by omega
                  have hokF : Turned w5 w8 xb xb sv (dropCM M dc) R.length := by
                    have h1 := HO.out
                    rw [hk3, ← HDL.out, dropK_all HF.out dc] at h1
                    exact ⟨⟨svk, Rk, hRT8, h1, hlenk, HW.out⟩, hM8.out⟩
                  obtain ⟨sv', R', hP6⟩ := HP.out.turn hmm h0x hbx hmx H5.out HM5.out hokF (di, dg) (by omega) (HP.out.am.less (di, dg) (zero_dropC M dc))
                  have hb84 : w8.heap[bx]? = w4.heap[bx]? := (hM8.out.block bx hbx5 (fun e => by
                    rcases e with e | e
                    · omega
                    · exact hsvb bx e rfl)).trans HB5.out
                  have HB := Lib.hid hb84
                  have HP6 := Lib.hid hP6
                  subst hg0
                  clear hk2 hk3 hokF hP6 hb84 hRT8 hS8
                  go_wp2
                  go_meet
                  case rel => exact ⟨by simp, ⟨(World.cell?_of_block (a := ⟨bx, 0, none⟩) HB.out).trans hX.out.1, (World.cell?_of_block (a := ⟨bx, 1, none⟩) HB.out).trans hX.out.2.1, (World.cell?_of_block (a := ⟨bx, 2, none⟩) HB.out).trans hX.out.2.2.1, fun j hj => (World.cell?_of_block (a := ⟨bx, 3 + j, none⟩) HB.out).trans (hX.out.2.2.2 j hj)⟩, _, _, _, _, by rw [List.length_append, hAl]; rfl, HP6.out⟩
        · as_aux_lemma =>
            subst hk0
            have hP := hP4.out
            have hXF : Lies w4 bx 3 #[.int .i64 di, .int .i64 dg] := hX.out.2.2.2
            have HXF := Lib.hid hXF
            have hrh := rHolders_any w4 xb xb sv R hP.rt M hP.ok.alike di dg
            have hlr := hP.len
            obtain ⟨hl, hhl⟩ : ∃ hl, holdL (M (di, dg)) 8 = hl := ⟨_, rfl⟩
            have hmem : ∀ c ∈ hl, c < 8 ∧ mo (M (di, dg)) c ≠ 0 := fun c hc => by rw [← hhl] at hc; exact holdL_mem.1 hc
            have hnd : hl.Nodup := by rw [← hhl]; exact holdL_nodup _
            have hlen8 : hl.length ≤ 8 := by rw [← hhl]; exact holdL_len _ _
            rw [hhl] at hrh
            have HHL := Lib.hid hhl
            have HMEM := Lib.hid hmem
            have HND := Lib.hid hnd
            have HRH := Lib.hid hrh
            clear hP hXF hrh hhl hmem hnd
            go_wp2_with (first
              | ((with_reducible refine wpList_loadA (aggF di dg) HXF.out ?_ ?_); rfl; go_frame)
              | fail)
            refine HRH.out.mono ?_
            rintro e w5 ⟨⟨v5, rfl, hO5⟩, hb5⟩
            have hXF5 : Lies w5 bx 3 #[.int .i64 di, .int .i64 dg] := HXF.out.below' hb5 hbx4
            have HXF5 := Lib.hid hXF5
            obtain ⟨a5, n5, c5, rfl⟩ := LOut.shape hO5
            have HO5 := Lib.hid hO5
            have HP5 := Lib.hid (hP4.out.keep hb5)
            have HB5 := Lib.hid hb5
            clear hXF5 hO5 hb5 HRH
            go_wp2_with (first
              | ((with_reducible refine wpList_loadA (aggF di dg) HXF5.out ?_ ?_); rfl; go_frame)
              | fail)
            obtain ⟨L5, clk5, hT5⟩ := HP5.out.tab
            refine (dropFile_any w5 b m clk5 L5 M hT5 di dg).mono ?_
            rintro e w6 ⟨⟨v6, rfl, hL6⟩, h6, hm6⟩
            rw [HHL.out] at hL6
            have hO6 : IntOut w4.heap.size w6 (.slice a5 n5 c5) (ints hl) := HO5.out.kept hm6.size fun r hr => hm6.block r (HO5.out.lt hr) (fun e => by have := HO5.out.lo r hr; omega)
            have hbx5 : bx < w5.heap.size := Nat.lt_of_lt_of_le hbx4 HB5.out.size
            have hb6 : w6.heap[bx]? = w5.heap[bx]? := hm6.block bx hbx5 (by omega)
            have hb64 : w6.heap[bx]? = w4.heap[bx]? := hb6.trans (HB5.out.block bx hbx4)
            have hRT6 := HP5.out.rows hmx hm6
            have H6 := Lib.hid h6
            have HM6 := Lib.hid hm6
            have HB64 := Lib.hid hb64
            clear hT5 hm6 h6 hb6 hb64
            go_wp2_with fail
            refine (sameInts_any w6 v6 _ _ hL6 (hO6.sl elI.len)).mono ?_
            rintro e w7 ⟨rfl, hb7⟩
            have hT7 : Turned w6 w7 xb xb sv (dropH M (di, dg) (hl.take 0)) R.length := by
              rw [List.take_zero, dropH_nil]
              exact hRT6.stay HP5.out.ok hb7 R.length (Nat.le_refl _)
            have hsvx : ∀ x, sv.ownBlock = some x → x < w4.heap.size := fun x hx => hP4.out.rt.own.lt hx
            have HSV := Lib.hid hsvx
            have HT7 := Lib.hid hT7
            have HO6 := Lib.hid hO6
            have hsz46 : w4.heap.size ≤ w6.heap.size := Nat.le_trans HB5.out.size HM6.out.size
            obtain ⟨as6, cs6, hv6, _⟩ := hO6.sl elI.len
            obtain ⟨rfl, rfl, rfl⟩ : a5 = as6 ∧ n5 = (ints hl).length ∧ c5 = cs6 := by simpa using hv6
            have hcl6 : hl.length ≤ c5 := by
              obtain ⟨_, _, h1, h2, _⟩ := hO6.sl elI.len
              rw [ints_len] at h1 h2
              simp at h1
              omega
            rw [ints_len] at HO6 HO5
            rw [ints_len]
            clear hT7 hsvx hL6 hO6 hRT6 hv6 hb7
            go_wp2
            go_loopw [9] (fun kv wr => ∃ k2 : Nat, k2 ≤ hl.length ∧ kv = .int .i64 k2 ∧ Turned w6 wr xb xb sv (dropH M (di, dg) (hl.take k2)) R.length) (fun kv _ => hl.length - (intOf kv).toNat)
            case atStart => exact ⟨0, Nat.zero_le _, rfl, HT7.out⟩
            case round =>
              obtain ⟨k2, hk2, rfl, hT⟩ := hrel
              have hbx6 : bx < w6.heap.size := Nat.lt_of_lt_of_le hbx4 hsz46
              have hbk : wr.heap[bx]? = w6.heap[bx]? := hT.mod.block bx hbx6 (fun e => by
                rcases e with e | e
                · omega
                · exact hsvb bx e rfl)
              by_cases hlt : k2 < hl.length
              · have hlt' : (k2 : Int) < (hl.length : Int) := by omega
                obtain ⟨svk, Rk, hRT, hokk, hlenk, hownk⟩ := hT.rows
                have hmod := hT.mod
                have hcm := HMEM.out hl[k2] (List.getElem_mem hlt)
                have hnot : hl[k2] ∉ hl.take k2 := fun hm => by
                  obtain ⟨j, hj, hje⟩ := List.getElem_of_mem hm
                  rw [List.length_take] at hj
                  rw [List.getElem_take] at hje
                  have := (List.getElem_inj HND.out).1 hje
                  omega
                have hst := dropH_step (M := M) (f := (di, dg)) hcm.1 (fun x hx => (HMEM.out x (List.mem_of_mem_take hx)).1) hcm.2 hnot
                rw [← List.take_succ_eq_append_getElem hlt] at hst
                have hOr := HO6.out.kept hmod.size fun r hr => hmod.block r (HO6.out.lt hr) (fun e => by
                  have h1 := HO6.out.lo r hr
                  rcases e with e | e
                  · omega
                  · have := HSV.out r e
                    omega)
                have hge : (ints hl)[k2]? = some ((hl[k2] : Nat) : Int) := by unfold ints; rw [List.getElem?_map, List.getElem?_eq_getElem hlt]; rfl
                obtain ⟨bh2, oh2, ch2, hvh, hbh2, hLh⟩ := (hOr.sl elI.len).at_ hge
                rw [ints_len] at hvh
                obtain ⟨rfl, rfl⟩ : a5 = some ⟨bh2, oh2, none⟩ ∧ c5 = ch2 := by simpa using hvh
                have hcell := intCell hLh
                obtain ⟨cc, hcc⟩ : ∃ cc, hl[k2] = cc := ⟨_, rfl⟩
                rw [hcc] at hcell hst
                have hcell' : wr.drew.cell? ⟨bh2, oh2 + k2, none⟩ = some (.int .i64 (cc : Int)) := hcell
                have hXr : Lies wr.drew bx 3 #[.int .i64 di, .int .i64 dg] := fun j hj => (World.cell?_of_block (a := ⟨bx, 3 + j, none⟩) (hbk.trans HB64.out)).trans (hX.out.2.2.2 j hj)
                have hSr : Lies wr.drew bx 3 #[.int .i64 di, .int .i64 dg] ∧ wr.drew.cell? ⟨bh2, oh2 + k2, none⟩ = some (.int .i64 (cc : Int)) := ⟨hXr, hcell'⟩
                have HO := Lib.hid hokk
                have HW := Lib.hid hownk
                have HST := Lib.hid hst
                have HMD := Lib.hid hmod
                have hRTd := hRT.below (Below.refl wr.heap.size wr).drew
                have hHR := Lib.hid hRTd
                clear HT7 hT hokk hownk hst hmod hcm hnot hOr hge hvh hLh hcell hcc hcell' hXr hRT hRTd hbk
                go_upto_region 23 with (fail)
                refine wp_region_x (fun w' => Lies w' bx 3 #[.int .i64 di, .int .i64 dg] ∧ w'.cell? ⟨bh2, oh2 + k2, none⟩ = some (.int .i64 (cc : Int))) [(0, 1), (1, 1), (2, 0), (3, 1), (4, 1), (5, 1), (6, 0), (7, 3)] (by kernel_rfl) (by kernel_rfl) (by intro d v c a w h; cases d <;> exact h) ?_
                iterate 2 (refine x_take rfl (fun K hK => ?_); go_simp; refine hK _ ?_; clear hK K)
                refine x_read rfl hSr (fun w' h => exec_loadA (aggF _ _) rfl h.1) ?_
                iterate 3 (refine x_take rfl (fun K hK => ?_); go_simp; refine hK _ ?_; clear hK K)
                refine x_read rfl hSr (fun w' h => exec_load1 ⟨⟨_, Try.underlying3, rfl⟩⟩ rfl h.2) ?_
                refine x_exec' rfl (fun K hK => ?_)
                go_simp
                refine (rDrop_any wr.drew xb xb svk Rk hHR.out _ HO.out di dg (cc : Int)).mono ?_
                rintro e w10 ⟨rfl, hT10⟩
                rw [HST.out] at hT10
                have hTT := Lib.hid (Turned.trans HW.out HMD.out.drew hT10 hlenk)
                refine hK _ _ ?_
                clear hK K hT10 hSr
                refine x_nil ?_
                go_wp2
                go_roundw
                case rel => exact ⟨k2 + 1, by omega, by go_num, hTT.out⟩
                case measure => simp [intOf]; omega
              · obtain rfl : k2 = hl.length := by omega
                obtain ⟨svk, Rk, hRT, hokk, hlenk, hownk⟩ := hT.rows
                have hokF : Turned w6 wr xb xb sv (setM M (di, dg) 0) R.length := by
                  rw [List.take_of_length_le (Nat.le_refl _), ← HHL.out] at hokk
                  exact ⟨⟨svk, Rk, hRT, dropH_ok hokk, hlenk, hownk⟩, hT.mod⟩
                obtain ⟨sv', R', hP6⟩ := HP5.out.turn hmm h0x hbx hmx H6.out HM6.out hokF (di, dg) (by omega) (HP5.out.am.less (di, dg) (zero_dropF M (di, dg)))
                have HB := Lib.hid (hbk.trans HB64.out)
                have HP6 := Lib.hid hP6
                clear HT7 hT hRT hokk hownk hokF hP6 hbk
                go_wp2
                go_meet
                case rel => exact ⟨by simp, ⟨(World.cell?_of_block (a := ⟨bx, 0, none⟩) HB.out).trans hX.out.1, (World.cell?_of_block (a := ⟨bx, 1, none⟩) HB.out).trans hX.out.2.1, (World.cell?_of_block (a := ⟨bx, 2, none⟩) HB.out).trans hX.out.2.2.1, fun j hj => (World.cell?_of_block (a := ⟨bx, 3 + j, none⟩) HB.out).trans (hX.out.2.2.2 j hj)⟩, _, _, _, _, by rw [List.length_append, hAl]; rfl, HP6.out⟩
        · as_aux_lemma =>
            obtain ⟨n0, n1, n2, n3⟩ := hk0
            have t0 : (kd == 0) = false := by simpa using n0
            have t1 : (kd == 1) = false := by simpa using n1
            have t2 : (kd == 2) = false := by simpa using n2
            have t3 : (kd == 3) = false := by simpa using n3
            clear n0 n1 n2 n3
            have hPd := hP4.out.drew
            obtain ⟨FL, hFL, hcnt, _⟩ := hPd.asks
            have hlen := len_any w4.drew _ M (hPd.tabL (by omega)) FL hFL
            rw [hcnt] at hlen
            obtain ⟨sa, sc, hsv, _⟩ := hPd.rt.own.sl elR.len
            have c0 : w4.drew.cell? ⟨xb, 0, none⟩ = some (.slice sa R.length sc) := by rw [← hsv]; exact hPd.rt.c0
            have hS : w4.drew.cell? ⟨xb, 0, none⟩ = some (.slice sa R.length sc) := c0
            have HL := Lib.hid hlen
            have hPm := Lib.hid (hPd.more (di, dg))
            have hxl : xb < w4.drew.heap.size := by show xb < w4.heap.size; omega
            clear hlen hcnt hPd hsv c0 hFL
            go_upto_region 8 with (fail)
            refine wp_region_x (fun w' => w'.cell? ⟨xb, 0, none⟩ = some (.slice sa R.length sc)) [(0, 1), (2, 1), (3, 1), (4, 1), (5, 0), (6, 1), (1, 2), (7, 1), (8, 1)] (by kernel_rfl) (by kernel_rfl) (by intro d v c a w h; cases d <;> exact h) ?_
            iterate 4 (refine x_take rfl (fun K hK => ?_); go_simp; refine hK _ ?_; clear hK K)
            refine x_read rfl hS (fun w' h => exec_load1 ⟨⟨_, Try.underlying39, rfl⟩⟩ rfl h) ?_
            iterate 1 (refine x_take rfl (fun K hK => ?_); go_simp; refine hK _ ?_; clear hK K)
            refine x_show' rfl (fun K hK => ?_)
            go_simp
            refine HL.out.mono ?_
            rintro e w5 ⟨rfl, hb5⟩
            have hb5' := hb5.block bx hbx4
            refine hK _ _ ((hb5.cell (p := ⟨xb, 0, none⟩) hxl).trans hS) ?_
            clear hK K hS
            iterate 2 (refine x_take rfl (fun K hK => ?_); go_simp; refine hK _ ?_; clear hK K)
            refine x_nil ?_
            go_wp2
            go_meet
            case rel =>
              refine ⟨by simp, ⟨(World.cell?_of_block (a := ⟨bx, 0, none⟩) hb5').trans hX.out.1, (World.cell?_of_block (a := ⟨bx, 1, none⟩) hb5').trans hX.out.2.1, (World.cell?_of_block (a := ⟨bx, 2, none⟩) hb5').trans hX.out.2.2.1, fun j hj => (World.cell?_of_block (a := ⟨bx, 3 + j, none⟩) hb5').trans (hX.out.2.2.2 j hj)⟩, _, _, _, _, by rw [List.length_append, hAl]; rfl, hPm.out.keep hb5⟩
      case rest => as_aux_lemma =>
        clear hX hP4 x0
        obtain ⟨rfl, ⟨_, e1, e2, e3⟩, M2, A2, sv2, R2, hA2, hP2⟩ := hcut
        obtain ⟨w5, hw5⟩ : ∃ w5, w5 = wc := ⟨_, rfl⟩
        subst hw5
        have hlt5 : bx < w5.heap.size := World.block_lt_of_cell? w5 _ e1
        have hS0 : Sta w b m xb M2 A2 sv2 R2 bx dc dm di dg w5 := ⟨hP2, hlt5, e1, e2, e3⟩
        have hA1 : A2.length ≤ 1000 := by omega
        obtain ⟨FL, hFL, hcnt, _⟩ := hP2.asks
        obtain ⟨sa, sc, rfl⟩ := hS0.shape
        have HF := Lib.hid hFL
        have HA1 := Lib.hid hA1
        have hR1 : R2.length ≤ 1000 := hP2.rt.len
        clear hFL hcnt e1 e2 e3 hP2 hbx4 hlt5
        have hS := hS0.drew
        have H0 := Lib.hid hS0
        clear hS0
        obtain ⟨q, hq⟩ : ∃ q : Int, ((modeI (M2 (di, dg)) dc : Nat) : Int) = q := ⟨_, rfl⟩
        have HQ := Lib.hid hq
        clear hq hA1
        go_upto_region 24 with (fail)
        refine wp_region_g (fun w' => Sta w b m xb M2 A2 (.slice sa R2.length sc) R2 bx dc dm di dg w') [(0, 1), (1, 1), (2, 1), (3, 1), (4, 1), (5, 0), (6, 1), (7, 0), (9, 1), (10, 1), (11, 0), (12, 1), (13, 0), (8, 2), (14, 2), (15, 1), (16, 1), (17, 1), (18, 1), (19, 1), (20, 0), (21, 1), (22, 0), (23, 1), (24, 0), (26, 1), (27, 1), (28, 0), (29, 1), (30, 0), (31, 1), (32, 0), (25, 2), (33, 2), (34, 2), (35, 1), (36, 1), (37, 1), (38, 1), (39, 1), (40, 0), (42, 1), (43, 1), (44, 0), (41, 2), (45, 2), (46, 2), (47, 1), (48, 1)] (by kernel_rfl) (by kernel_rfl) (by intro d v c a w h; cases d <;> exact h) ?_
        iterate 5 (refine g_take rfl rfl (fun K hK => ?_); go_simp; refine hK _ ?_; clear hK K)
        refine g_read rfl rfl hS (fun w' h => exec_loadA (aggF _ _) rfl h.cf) ?_
        iterate 1 (refine g_take rfl rfl (fun K hK => ?_); go_simp; refine hK _ ?_; clear hK K)
        refine g_read rfl rfl hS (fun w' h => exec_load1 ⟨⟨_, Try.underlying3, rfl⟩⟩ rfl h.c1) ?_
        iterate 2 (refine g_take rfl rfl (fun K hK => ?_); go_simp; refine hK _ ?_; clear hK K)
        refine g_read rfl rfl hS (fun w' h => exec_loadA (aggF _ _) rfl h.cf) ?_
        iterate 1 (refine g_take rfl rfl (fun K hK => ?_); go_simp; refine hK _ ?_; clear hK K)
        refine g_read rfl rfl hS (fun w' h => exec_load1 ⟨⟨_, Try.underlying3, rfl⟩⟩ rfl h.c1) ?_
        refine g_show' rfl rfl (fun K hK => ?_)
        go_simp
        refine (mode_any _ _ M2 hS.tabV di dg dc).mono ?_
        rintro e w6 ⟨rfl, hb6⟩
        have hS6 := hS.keep hb6
        rw [HQ.out]
        refine hK _ _ hS6 ?_
        clear hK K hb6 hS
        refine g_show' rfl rfl (fun K hK => ?_)
        go_simp
        refine hS6.rmode.mono ?_
        rintro e w7 ⟨rfl, hb7⟩
        have hS7 := hS6.keep hb7
        rw [HQ.out]
        refine hK _ _ hS7 ?_
        clear hK K hb7 hS6
        iterate 5 (refine g_take rfl rfl (fun K hK => ?_); go_simp; refine hK _ ?_; clear hK K)
        refine g_read rfl rfl hS7 (fun w' h => exec_loadA (aggF _ _) rfl h.cf) ?_
        iterate 1 (refine g_take rfl rfl (fun K hK => ?_); go_simp; refine hK _ ?_; clear hK K)
        refine g_read rfl rfl hS7 (fun w' h => exec_load1 ⟨⟨_, Try.underlying3, rfl⟩⟩ rfl h.c1) ?_
        iterate 1 (refine g_take rfl rfl (fun K hK => ?_); go_simp; refine hK _ ?_; clear hK K)
        refine g_read rfl rfl hS7 (fun w' h => exec_load1 ⟨⟨_, Try.underlying3, rfl⟩⟩ rfl h.c2) ?_
        iterate 2 (refine g_take rfl rfl (fun K hK => ?_); go_simp; refine hK _ ?_; clear hK K)
        refine g_read rfl rfl hS7 (fun w' h => exec_loadA (aggF _ _) rfl h.cf) ?_
        iterate 1 (refine g_take rfl rfl (fun K hK => ?_); go_simp; refine hK _ ?_; clear hK K)
        refine g_read rfl rfl hS7 (fun w' h => exec_load1 ⟨⟨_, Try.underlying3, rfl⟩⟩ rfl h.c1) ?_
        iterate 1 (refine g_take rfl rfl (fun K hK => ?_); go_simp; refine hK _ ?_; clear hK K)
        refine g_read rfl rfl hS7 (fun w' h => exec_load1 ⟨⟨_, Try.underlying3, rfl⟩⟩ rfl h.c2) ?_
        refine g_show' rfl rfl (fun K hK => ?_)
        go_simp
        refine (others_any _ _ M2 hS7.tabV di dg dc dm).mono ?_
        rintro e w8 ⟨⟨v8, rfl, hO8⟩, hb8⟩
        have hS8 := hS7.keep hb8
        refine hK _ _ hS8 ?_
        clear hK K hb8 hS7
        refine g_show' rfl rfl (fun K hK => ?_)
        go_simp
        refine (rOthers_any w8 xb xb _ R2 hS8.st.rt M2 hS8.st.ok.alike di dg dc dm).mono ?_
        rintro e w9 ⟨⟨v9, rfl, hO9⟩, hb9⟩
        have hS9 := hS8.keep hb9
        have hL8 := (hO8.sl elI.len).below hb9
        have hL9 := hO9.sl elI.len
        refine hK _ _ hS9 ?_
        clear hK K hb9 hS8 hO8 hO9
        refine g_show' rfl rfl (fun K hK => ?_)
        go_simp
        refine (sameInts_any w9 v8 v9 _ hL8 hL9).mono ?_
        rintro e w10 ⟨rfl, hb10⟩
        have hS10 := hS9.keep hb10
        refine hK _ _ hS10 ?_
        clear hK K hb10 hS9 hL8 hL9
        iterate 5 (refine g_take rfl rfl (fun K hK => ?_); go_simp; refine hK _ ?_; clear hK K)
        refine g_read rfl rfl hS10 (fun w' h => exec_loadA (aggF _ _) rfl h.cf) ?_
        iterate 2 (refine g_take rfl rfl (fun K hK => ?_); go_simp; refine hK _ ?_; clear hK K)
        refine g_read rfl rfl hS10 (fun w' h => exec_loadA (aggF _ _) rfl h.cf) ?_
        refine g_show' rfl rfl (fun K hK => ?_)
        go_simp
        refine (holders_any _ _ M2 hS10.tabV di dg).mono ?_
        rintro e w11 ⟨⟨v11, rfl, hO11⟩, hb11⟩
        have hS11 := hS10.keep hb11
        refine hK _ _ hS11 ?_
        clear hK K hb11 hS10
        refine g_show' rfl rfl (fun K hK => ?_)
        go_simp
        refine (rHolders_any w11 xb xb _ R2 hS11.st.rt M2 hS11.st.ok.alike di dg).mono ?_
        rintro e w12 ⟨⟨v12, rfl, hO12⟩, hb12⟩
        have hS12 := hS11.keep hb12
        have hL11 := (hO11.sl elI.len).below hb12
        have hL12 := hO12.sl elI.len
        refine hK _ _ hS12 ?_
        clear hK K hb12 hS11 hO11 hO12
        refine g_show' rfl rfl (fun K hK => ?_)
        go_simp
        refine (sameInts_any w12 v11 v12 _ hL11 hL12).mono ?_
        rintro e w13 ⟨rfl, hb13⟩
        have hS13 := hS12.keep hb13
        refine hK _ _ hS13 ?_
        clear hK K hb13 hS12 hL11 hL12
        iterate 2 (refine g_take rfl rfl (fun K hK => ?_); go_simp; refine hK _ ?_; clear hK K)
        refine g_nil ?_
        have hSd := hS13.drew
        have HX := Lib.hid hS13
        clear hS13
        go_upto_region 26 with (fail)
        refine wp_region_g (fun w' => Sta w b m xb M2 A2 (.slice sa R2.length sc) R2 bx dc dm di dg w') [(0, 1), (2, 1), (3, 1), (4, 1), (5, 0), (6, 1), (1, 2), (7, 1), (8, 1), (9, 1), (11, 1), (10, 2), (12, 2), (13, 2), (14, 1), (15, 1), (16, 1), (17, 1), (18, 0), (19, 1), (20, 1), (21, 1), (22, 1), (23, 0), (25, 1), (26, 1), (27, 0), (24, 2), (28, 2), (29, 2), (30, 1), (31, 1), (32, 1)] (by kernel_rfl) (by kernel_rfl) (by intro d v c a w h; cases d <;> exact h) ?_
        iterate 4 (refine g_take rfl rfl (fun K hK => ?_); go_simp; refine hK _ ?_; clear hK K)
        refine g_read rfl rfl hSd (fun w' h => exec_load1 ⟨⟨_, Try.underlying39, rfl⟩⟩ rfl h.c0) ?_
        iterate 1 (refine g_take rfl rfl (fun K hK => ?_); go_simp; refine hK _ ?_; clear hK K)
        refine g_show' rfl rfl (fun K hK => ?_)
        go_simp
        refine (hSd.st.plen HA1.out).mono ?_
        rintro e w6 ⟨rfl, hb6⟩
        have hS6 := hSd.keep hb6
        refine hK _ _ hS6 ?_
        clear hK K hb6 hSd
        iterate 4 (refine g_take rfl rfl (fun K hK => ?_); go_simp; refine hK _ ?_; clear hK K)
        refine g_show' rfl rfl (fun K hK => ?_)
        go_simp
        refine (hS6.st.files HA1.out HF.out).mono ?_
        rintro e w7 ⟨⟨v7, rfl, hL7⟩, hb7⟩
        have hS7 := hS6.keep hb7
        refine hK _ _ hS7 ?_
        clear hK K hb7 hS6
        refine g_show' rfl rfl (fun K hK => ?_)
        go_simp
        refine (hS7.st.all HF.out).mono ?_
        rintro e w8 ⟨⟨v8, rfl, hL8⟩, hb8⟩
        have hS8 := hS7.keep hb8
        have hL7' := hL7.below hb8
        refine hK _ _ hS8 ?_
        clear hK K hb8 hS7 hL7
        refine g_show' rfl rfl (fun K hK => ?_)
        go_simp
        refine (same_any w8 v7 v8 _ hL7' hL8).mono ?_
        rintro e w9 ⟨rfl, hb9⟩
        have hS9 := hS8.keep hb9
        refine hK _ _ hS9 ?_
        clear hK K hb9 hS8 hL7' hL8
        iterate 4 (refine g_take rfl rfl (fun K hK => ?_); go_simp; refine hK _ ?_; clear hK K)
        refine g_read rfl rfl hS9 (fun w' h => exec_load1 ⟨⟨_, Try.underlying3, rfl⟩⟩ rfl h.c1) ?_
        by_cases hc0 : (0 : Int) ≤ dc
        · iterate 4 (refine g_take rfl rfl (fun K hK => ?_); go_simp; refine hK _ ?_; clear hK K)
          refine g_read rfl rfl hS9 (fun w' h => exec_load1 ⟨⟨_, Try.underlying3, rfl⟩⟩ rfl h.c1) ?_
          iterate 2 (refine g_take rfl rfl (fun K hK => ?_); go_simp; refine hK _ ?_; clear hK K)
          refine g_read rfl rfl hS9 (fun w' h => exec_load1 ⟨⟨_, Try.underlying3, rfl⟩⟩ rfl h.c1) ?_
          refine g_show' rfl rfl (fun K hK => ?_)
          go_simp
          refine (hS9.st.pof HA1.out HF.out dc).mono ?_
          rintro e w10 ⟨⟨v10, rfl, hL10⟩, hb10⟩
          have hS10 := hS9.keep hb10
          refine hK _ _ hS10 ?_
          clear hK K hb10 hS9
          refine g_show' rfl rfl (fun K hK => ?_)
          go_simp
          refine (hS10.st.of HF.out dc hc0).mono ?_
          rintro e w11 ⟨⟨v11, rfl, hL11⟩, hb11⟩
          have hS11 := hS10.keep hb11
          have hL10' := hL10.below hb11
          refine hK _ _ hS11 ?_
          clear hK K hb11 hS10 hL10
          refine g_show' rfl rfl (fun K hK => ?_)
          go_simp
          refine (same_any w11 v10 v11 _ hL10' hL11).mono ?_
          rintro e w12 ⟨rfl, hb12⟩
          have hS12 := hS11.keep hb12
          refine hK _ _ hS12 ?_
          clear hK K hb12 hS11 hL10' hL11
          iterate 3 (refine g_take rfl rfl (fun K hK => ?_); go_simp; refine hK _ ?_; clear hK K)
          refine g_nil ?_
          have hZ := Lib.hid hS12.st
          clear hS12
          go_wp2
          go_roundw
          case rel => exact ⟨k + 1, by omega, by go_num, _, _, _, _, hA2, hZ.out⟩
          case measure => simp [intOf]; omega
        · iterate 2 (refine g_take rfl rfl (fun K hK => ?_); go_simp; refine hK _ ?_; clear hK K)
          iterate 10 (refine g_offK rfl rfl (fun _ => hS9) (fun K hK => ?_); go_simp; refine hK _ ?_; clear hK K)
          iterate 2 (refine g_take rfl rfl (fun K hK => ?_); go_simp; refine hK _ ?_; clear hK K)
          refine g_nil ?_
          have hZ := Lib.hid hS9.st
          clear hS9
          go_wp2
          go_roundw
          case rel => exact ⟨k + 1, by omega, by go_num, _, _, _, _, hA2, hZ.out⟩
          case measure => simp [intOf]; omega
    · have hstop : (ds.length : Int) ≤ (k : Int) ∨ ((k : Int) < (ds.length : Int) ∧ (60 : Int) ≤ (k : Int)) := by omega
      have hB := hP.bel
      clear hgo hx hP
      rcases hstop with hstop | ⟨hstop, hstop'⟩
      all_goals
        go_wp2_with fail
        refine (lives_any wr).mono ?_
        rintro e w4 ⟨rfl, hb4⟩
        go_wp2
        go_ret
        exact ⟨rfl, hB.trans (hb4.mono hB.size)⟩
end Go.Proofs.Ytnjiocikpigegaa
