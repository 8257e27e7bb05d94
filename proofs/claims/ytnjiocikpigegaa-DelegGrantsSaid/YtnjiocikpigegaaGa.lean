/- The walk of the law DelegGrants. -/
import Derived.Test.YtnjiocikpigegaaDo
import Derived.Deep.DeepCutAuto
import Derived.Deep.CutBlock
namespace Go.Proofs.Ytnjiocikpigegaa
open Go.RowKit Go.Tn Go.Tn.Mo Go.Maps Go.Sort Go.Shelf

set_option maxRecDepth 20000 in
set_option maxHeartbeats 8000000 in
theorem grants_walk (w : World) (v : Value) (ds : List DoR) (hv : LSl enD 5 w v ds) (i g client mode : Int) : Calls Try.prog 3 #[v, .agg #[.int .i64 i, .int .i64 g], .int .i64 client, .int .i64 mode] w fun e w' => e = .returned (.bool true) ∧ Below w.heap.size w w' := by
  obtain ⟨w1, hw1⟩ : ∃ w1, w.alloc (.cells #[.int .i64 i, .int .i64 g] 24) = w1 := ⟨_, rfl⟩
  have hW1 : Below w.heap.size w w1 := by rw [← hw1]; exact (Below.refl _ _).alloc (Nat.le_refl _) _
  have hs1 : w1.heap.size = w.heap.size + 1 := by rw [← hw1]; simp
  have hb1 : Lies w1 w.heap.size 0 #[.int .i64 i, .int .i64 g] := by rw [← hw1]; exact box_file
  have HW := Lib.hid hw1
  have HS := Lib.hid hs1
  clear hw1 hs1
  obtain ⟨ao, cap, rfl, hcl, hcm, hx⟩ := hv
  unfold maxLen at hcm
  go_enter Try.func3, Try.ntmps3
  go_upto_region 1 with (fail)
  rw [HW.out]
  go_wp2_with fail
  refine (new_any w1).mono ?_
  rintro e w2 ⟨b, m, rfl, h2, hbb, hmm, hb2⟩
  go_wp2_with fail
  refine (within07 w2 client).mono ?_
  rintro e w' ⟨⟨c, hc8, rfl⟩, hw⟩
  obtain rfl := hw.symm
  clear hw
  go_wp2_with fail
  refine (within12 w2 mode).mono ?_
  rintro e w' ⟨⟨d, hd1, hd2, rfl⟩, hw⟩
  obtain rfl := hw.symm
  clear hw
  have hd : d = 1 ∨ d = 2 := by omega
  clear hd1 hd2
  have hW2 : Below w.heap.size w w2 := hW1.trans (hb2.mono hW1.size)
  have hx2 : Lies w2 w.heap.size 0 #[.int .i64 i, .int .i64 g] := hb1.below' hb2 (by have := HS.out; omega)
  have hbw : w.heap.size < b := by have := HS.out; omega
  have hmw : w.heap.size < m := by have := HS.out; omega
  have h2' : ∃ L clk M, TabAt w2 b m L clk M := ⟨_, _, _, h2⟩
  clear h2 hbb hmm hb2 hW1 hb1
  go_wp2
  go_loopw [10] (fun kv wr => ∃ k : Nat, k ≤ 40 ∧ kv = .int .i64 k ∧ (∃ L clk M, TabAt wr b m L clk M) ∧ Lies wr w.heap.size 0 #[.int .i64 i, .int .i64 g] ∧ Below w.heap.size w wr) (fun kv _ => 40 - (intOf kv).toNat)
  case atStart => exact ⟨0, by omega, rfl, h2', hx2, hW2⟩
  case round =>
    obtain ⟨k, hk, rfl, ⟨L, clk, M, hT⟩, hX, hB⟩ := hrel
    clear h2' hx2 hW2
    by_cases hgo : k < ds.length ∧ k < 40
    · obtain ⟨hkl, hk4⟩ := hgo
      have hkl' : (k : Int) < (ds.length : Int) := by omega
      have hk4' : (k : Int) < 40 := by omega
      obtain ⟨bh, off, rfl, hbh, hcs⟩ := hx (by omega)
      have hD := (hcs k _ (List.getElem?_eq_getElem hkl)).below' hB hbh
      clear hcs hx
      generalize ds[k] = dd at *
      obtain ⟨kd, dc, dm, di, dg⟩ := dd
      have d0 : wr.cell? ⟨bh, off + k * 5, none⟩ = some (.int .i64 kd) := hD 0 (by simp [enD])
      have d1 : wr.cell? ⟨bh, off + k * 5 + 1, none⟩ = some (.int .i64 dc) := hD 1 (by simp [enD])
      have d2 : wr.cell? ⟨bh, off + k * 5 + 2, none⟩ = some (.int .i64 dm) := hD 2 (by simp [enD])
      have d3 : Lies wr bh (off + k * 5 + 3) #[.int .i64 di, .int .i64 dg] := fun j hj => by
        match j, hj with
        | 0, _ => exact hD 3 (by simp [enD])
        | 1, _ => exact hD 4 (by simp [enD])
      by_cases hkd : kd = 0
      · subst hkd
        go_upto_region 7 with (fail)
        refine wp_region_x (fun w' => w'.cell? ⟨bh, off + k * 5 + 1, none⟩ = some (.int .i64 dc) ∧ w'.cell? ⟨bh, off + k * 5 + 2, none⟩ = some (.int .i64 dm) ∧ Lies w' bh (off + k * 5 + 3) #[.int .i64 di, .int .i64 dg]) [(0, 1), (1, 1), (2, 1), (3, 1), (4, 1), (5, 0), (6, 1), (7, 1), (8, 1), (9, 1), (10, 0), (11, 1), (12, 1), (13, 1), (14, 1), (15, 0), (16, 2)] (by kernel_rfl) (by kernel_rfl) (by intro d v c a w h; cases d <;> exact h) ?_
        have hS : wr.drew.cell? ⟨bh, off + k * 5 + 1, none⟩ = some (.int .i64 dc) ∧ wr.drew.cell? ⟨bh, off + k * 5 + 2, none⟩ = some (.int .i64 dm) ∧ Lies wr.drew bh (off + k * 5 + 3) #[.int .i64 di, .int .i64 dg] := ⟨d1, d2, d3⟩
        iterate 5 (refine x_take rfl (fun K hK => ?_); go_simp; refine hK _ ?_; clear hK K)
        refine x_read rfl hS (fun w' h => exec_loadA (aggF _ _) rfl h.2.2) ?_
        iterate 4 (refine x_take rfl (fun K hK => ?_); go_simp; refine hK _ ?_; clear hK K)
        refine x_read rfl hS (fun w' h => exec_load1 ⟨⟨_, Try.underlying3, rfl⟩⟩ rfl h.1) ?_
        iterate 4 (refine x_take rfl (fun K hK => ?_); go_simp; refine hK _ ?_; clear hK K)
        refine x_read rfl hS (fun w' h => exec_load1 ⟨⟨_, Try.underlying3, rfl⟩⟩ rfl h.2.1) ?_
        have hTd : TabAt wr.drew b m L clk M := ⟨hT.blk, hT.map, hT.wf, hT.ne, hT.get, hT.lt, hT.two⟩
        refine x_show' rfl (fun K hK => ?_)
        go_simp
        refine (grant_any _ b m clk L M hTd di dg dc dm).mono ?_
        rintro e w4 ⟨rfl, ⟨L4, c4, h4⟩, hm4⟩
        have hbel4 : Below w.heap.size wr w4 := (Below.refl _ wr).drew.trans (hm4.below hB.size (fun x hx e => by omega))
        have hD4 : ∀ {o : Nat} {cs : Array Value}, Lies wr bh o cs → Lies w4 bh o cs := fun h => h.below' hbel4 hbh
        have e1 : w4.cell? ⟨bh, off + k * 5 + 1, none⟩ = some (.int .i64 dc) := (hbel4.cell (p := ⟨bh, off + k * 5 + 1, none⟩) hbh).trans d1
        have e2 : w4.cell? ⟨bh, off + k * 5 + 2, none⟩ = some (.int .i64 dm) := (hbel4.cell (p := ⟨bh, off + k * 5 + 2, none⟩) hbh).trans d2
        have hX4 : Lies w4 w.heap.size 0 #[.int .i64 i, .int .i64 g] := fun j hj => by
          have h0 := hX j hj
          have hlt : w.heap.size < wr.drew.heap.size := by
            have := hT.b_lt
            show w.heap.size < wr.heap.size
            omega
          have hb := hm4.block w.heap.size hlt (by omega)
          simp only [World.cell?] at h0 ⊢
          rw [hb]
          exact h0
        refine hK _ _ ⟨e1, e2, hD4 d3⟩ ?_
        clear hK K
        refine x_nil ?_
        go_wp2
        go_roundw
        case rel => exact ⟨k + 1, by omega, by go_num, ⟨_, _, _, h4⟩, hX4, hB.trans hbel4⟩
        case measure => simp [intOf]; omega
      · have t0 : (kd == 0) = false := by simpa using hkd
        clear hkd
        go_wp2
        go_roundw
        case rel => exact ⟨k + 1, by omega, by go_num, ⟨_, _, _, hT⟩, hX, hB⟩
        case measure => simp [intOf]; omega
    · have hT0 := hT
      have q0 : wr.cell? ⟨w.heap.size, 0, none⟩ = some (.int .i64 i) := hX 0 (by simp)
      have q1 : wr.cell? ⟨w.heap.size, 1, none⟩ = some (.int .i64 g) := hX 1 (by simp)
      have hstop : (ds.length : Int) ≤ (k : Int) ∨ ((k : Int) < (ds.length : Int) ∧ (40 : Int) ≤ (k : Int)) := by omega
      clear hgo hx
      rcases hstop with hstop | ⟨hstop, hstop'⟩
      all_goals
        go_wp2_with fail
        refine (others_any wr _ M hT.v i g c d).mono ?_
        rintro e w4 ⟨⟨vo, rfl, hO⟩, hb4⟩
        have h4 := hT.below hb4 hT.b_lt hT.m_lt
        have hR := hO.rd elI.len
        have hbx := hT.b_lt
        have hmlt := hT.m_lt
        have hX4 := hX.below' hb4 (by omega)
        have hB4 : Below w.heap.size w w4 := hB.trans (hb4.mono hB.size)
        have p0 : w4.cell? ⟨w.heap.size, 0, none⟩ = some (.int .i64 i) := hX4 0 (by simp)
        have p1 : w4.cell? ⟨w.heap.size, 1, none⟩ = some (.int .i64 g) := hX4 1 (by simp)
        have hs4 : w.heap.size < w4.heap.size := by have := h4.b_lt; omega
        clear q0 q1 hO hb4 hT hT0 hX hB hstop
        obtain ⟨cs, hcs⟩ : ∃ cs, otherL (M (i, g)) c d = cs := ⟨_, rfl⟩
        have hnd : cs.Nodup := by rw [← hcs]; exact otherL_nodup _ _ _
        have hc8s : ∀ x ∈ cs, x < 8 ∧ mo (M (i, g)) x ≠ 0 := fun x hxx => by
          rw [← hcs] at hxx
          obtain ⟨a1, a2, _⟩ := otherL_mem.1 hxx
          exact ⟨a1, a2⟩
        rw [hcs] at hR
        obtain ⟨ao2, cap2, rfl, hcl2, hcm2, hx2⟩ := hR.sl
        have hlen : (ints cs).length = cs.length := ints_len _
        rw [hlen] at hcl2 hx2 hR ⊢
        unfold maxLen at hcm2
        have hall : ∀ M1 : Fi → Nat, (M1 (i, g) = M (i, g) ∨ cs = [] ∧ otherL (M1 (i, g)) c d = []) → otherL (dropAll (M1 (i, g)) cs) c d = [] := fun M1 h => by
          rcases h with h | ⟨h, h'⟩
          · rw [h, ← hcs]; exact other_dropAll _ _ _
          · rw [h]; exact h'
        by_cases hemp : cs = []
        case' pos =>
          have hlast := fun w' h => (grant_ok w' b m clk L M h i g c d hc8 hd (by rw [hcs]; exact hemp))
          have hlz2 : ((cs.length : Int) == 0) = true := by simpa using (show (cs.length : Int) = 0 by rw [hemp]; rfl)
          have HE := Lib.hid hemp
          clear hemp
          go_wp2_with fail
          refine (hlast w4 h4).mono ?_
          rintro e w5 ⟨rfl, ⟨L5, c5, h5⟩, hm5⟩
          have hM1 : (setM M (i, g) (wi (M (i, g)) c (max d (mo (M (i, g)) c)))) (i, g) = M (i, g) ∨ cs = [] ∧ otherL ((setM M (i, g) (wi (M (i, g)) c (max d (mo (M (i, g)) c)))) (i, g)) c d = [] := by
            have h2 := h4.two (i, g) c hc8
            exact .inr ⟨HE.out, by rw [setM_same]; exact other_own _ hc8 (by omega) d (by rw [hcs]; exact HE.out)⟩
          have hmoc : ∀ x ∈ cs, x < 8 ∧ mo ((setM M (i, g) (wi (M (i, g)) c (max d (mo (M (i, g)) c)))) (i, g)) x ≠ 0 := fun x hxx => by rw [HE.out] at hxx; cases hxx
          have hfin := hall _ hM1
          clear hM1
          generalize setM M (i, g) (wi (M (i, g)) c (max d (mo (M (i, g)) c))) = M5 at *
          clear hlast
          go_upto_region 12 with (fail)
        case' neg =>
          have hlast := fun w' h => (grant_busy w' b m clk L M h i g c d hc8 hd (by rw [hcs]; exact hemp))
          have hlz : 0 < cs.length := List.length_pos_iff.2 hemp
          have hlz1 : (0 : Int) < (cs.length : Int) := by omega
          have hlz2 : ((cs.length : Int) == 0) = false := by simpa using (show ¬ (cs.length : Int) = 0 by omega)
          go_wp2_with fail
          refine (hlast w4 h4).mono ?_
          rintro e w5 ⟨rfl, hb5⟩
          have hm5 : Mod (fun x => x = m) w4 w5 := (Mod.of_below hb5).mono fun x hx h => absurd hx (Nat.not_lt.2 h)
          obtain ⟨M5, L5, c5, hM5, h5⟩ : ∃ M5 L5 c5, M5 = M ∧ TabAt w5 b m L5 c5 M5 := ⟨M, L, clk, rfl, h4.below hb5 h4.b_lt h4.m_lt⟩
          have hM1 : M5 (i, g) = M (i, g) ∨ cs = [] ∧ otherL (M5 (i, g)) c d = [] := .inl (by rw [hM5])
          have hmoc : ∀ x ∈ cs, x < 8 ∧ mo (M5 (i, g)) x ≠ 0 := fun x hxx => by rw [hM5]; exact hc8s x hxx
          have HE := Lib.hid (True.intro)
          have hfin := hall M5 hM1
          clear hM1
          clear hlast hM5 hb5 hemp hlz
          go_upto_region 12 with (fail)
        all_goals
          have hX5 : Lies w5 w.heap.size 0 #[.int .i64 i, .int .i64 g] := fun j hj => by
            have h0 := hX4 j hj
            have hb := hm5.block w.heap.size hs4 (by omega)
            simp only [World.cell?] at h0 ⊢
            rw [hb]
            exact h0
          have hB5 : Below w.heap.size w w5 := hB4.trans (hm5.below (by omega) (fun x hx e => by omega))
          have hne5 : ∀ r, (Value.slice ao2 cs.length cap2).ownBlock = some r → r ≠ m := fun r hr e => by have := hR.lo r hr; omega
          have hR5 : LRd enI 1 wr.heap.size w5 (.slice ao2 cs.length cap2) (ints cs) := hR.kept hm5.size fun r hr => hm5.block r (hR.lt r hr) (fun e => by have := hR.lo r hr; omega)
          have hm5s : w4.heap.size ≤ w5.heap.size := hm5.size
          have hx5 := (hR5.sl)
          have HD := Lib.hid hnd
          have HM := Lib.hid hmoc
          have HF := Lib.hid hfin
          clear hnd hmoc hfin hall hc8s hcs hX4 hB4 hR h4 p0 p1 hm5 hlz2 HE
          go_wp2
          go_loopw [13] (fun kv wx => ∃ k : Nat, k ≤ cs.length ∧ kv = .int .i64 k ∧ (∃ L clk, TabAt wx b m L clk (setM M5 (i, g) (dropAll (M5 (i, g)) (cs.take k)))) ∧ Mod (fun x => x = m) w5 wx) (fun kv _ => cs.length - (intOf kv).toNat)
          case atStart =>
            refine ⟨0, Nat.zero_le _, rfl, ⟨L5, c5, ?_⟩, Mod.refl _ _⟩
            rw [List.take_zero, dropAll, setM_id]
            exact h5
          case round =>
            obtain ⟨q, hq, rfl, ⟨L6, c6, h6⟩, hm6⟩ := hrel
            clear h5
            have hX6 : Lies wr w.heap.size 0 #[.int .i64 i, .int .i64 g] := fun j hj => by
              have h0 := hX5 j hj
              have hb := hm6.block w.heap.size (by have := hm5s; omega) (by omega)
              simp only [World.cell?] at h0 ⊢
              rw [hb]
              exact h0
            by_cases hlt : q < cs.length
            · have hlt' : (q : Int) < (cs.length : Int) := by omega
              obtain ⟨bo, oo, cap3, hveq, hbo, hco⟩ := hx5.at_ (i := q) (x := ((cs[q] : Nat) : Int)) (by simp [ints, hlt])
              obtain ⟨rfl, -, rfl⟩ : ao2 = some ⟨bo, oo, none⟩ ∧ cs.length = (ints cs).length ∧ cap2 = cap3 := by simpa using hveq
              have hcell : wr.cell? ⟨bo, oo + q, none⟩ = some (.int .i64 ((cs[q] : Nat) : Int)) := by
                have h0 := intCell hco
                have hb := hm6.block bo hbo (hne5 bo rfl)
                simp only [World.cell?] at h0 ⊢
                rw [hb]
                exact h0
              have hnot : cs[q] ∉ cs.take q := fun hmm => by
                obtain ⟨j, hj, hje⟩ := List.getElem_of_mem hmm
                rw [List.length_take] at hj
                rw [List.getElem_take] at hje
                have := (List.getElem_inj HD.out).1 hje
                omega
              obtain ⟨hcq, hmq⟩ := HM.out cs[q] (List.getElem_mem hlt)
              have hmoq : mo ((setM M5 (i, g) (dropAll (M5 (i, g)) (cs.take q))) (i, g)) cs[q] ≠ 0 := by
                rw [setM_same, mo_dropAll _ _ (fun y hy => (HM.out y (List.mem_of_mem_take hy)).1) _ hcq, if_neg hnot]
                exact hmq
              have hnext : setM (setM M5 (i, g) (dropAll (M5 (i, g)) (cs.take q))) (i, g) (wi ((setM M5 (i, g) (dropAll (M5 (i, g)) (cs.take q))) (i, g)) cs[q] 0) = setM M5 (i, g) (dropAll (M5 (i, g)) (cs.take (q + 1))) := by
                rw [setM_setM, setM_same, List.take_succ_eq_append_getElem hlt, dropAll_snoc]
              have h6d : TabAt wr.drew b m L6 c6 (setM M5 (i, g) (dropAll (M5 (i, g)) (cs.take q))) := ⟨h6.blk, h6.map, h6.wf, h6.ne, h6.get, h6.lt, h6.two⟩
              have hdr := drop_ok wr.drew b m c6 L6 _ h6d i g cs[q] hcq hmoq
              rw [hnext] at hdr
              have HDR := Lib.hid hdr
              have hS : Lies wr.drew w.heap.size 0 #[.int .i64 i, .int .i64 g] ∧ wr.drew.cell? ⟨bo, oo + q, none⟩ = some (.int .i64 ((cs[q] : Nat) : Int)) := ⟨hX6, hcell⟩
              have hbos : bo < wr.heap.size := by have := hm6.size; omega
              have hws : w.heap.size < wr.heap.size := by have := hm6.size; omega
              clear hmoq hnext hdr h6d hnot hco hveq
              generalize cs[q] = x at *
              go_upto_region 15 with (fail)
              refine wp_region_x (fun w' => Lies w' w.heap.size 0 #[.int .i64 i, .int .i64 g] ∧ w'.cell? ⟨bo, oo + q, none⟩ = some (.int .i64 (x : Int))) [(0, 1), (1, 0), (2, 1), (3, 1), (4, 1), (5, 0), (6, 2), (7, 1)] (by kernel_rfl) (by kernel_rfl) (by intro d v c a w h; cases d <;> exact h) ?_
              iterate 1 (refine x_take rfl (fun K hK => ?_); go_simp; refine hK _ ?_; clear hK K)
              refine x_read rfl hS (fun w' h => exec_loadA (aggF _ _) rfl h.1) ?_
              iterate 3 (refine x_take rfl (fun K hK => ?_); go_simp; refine hK _ ?_; clear hK K)
              refine x_read rfl hS (fun w' h => exec_load1 ⟨⟨_, Try.underlying3, rfl⟩⟩ rfl h.2) ?_
              refine x_show' rfl (fun K hK => ?_)
              go_simp
              refine HDR.out.mono ?_
              rintro e w7 ⟨rfl, ⟨L7, c7, h7⟩, hm7⟩
              have hS7 : Lies w7 w.heap.size 0 #[.int .i64 i, .int .i64 g] ∧ w7.cell? ⟨bo, oo + q, none⟩ = some (.int .i64 (x : Int)) := by
                refine ⟨fun j hj => ?_, ?_⟩
                · have h0 := hX6 j hj
                  have hb := hm7.block w.heap.size hws (by omega)
                  simp only [World.cell?] at h0 ⊢
                  rw [hb]
                  exact h0
                · have hb := hm7.block bo hbos (hne5 bo rfl)
                  simp only [World.cell?] at hcell ⊢
                  rw [hb]
                  exact hcell
              refine hK _ _ hS7 ?_
              clear hK K
              iterate 1 (refine x_take rfl (fun K hK => ?_); go_simp; refine hK _ ?_; clear hK K)
              refine x_nil ?_
              have hm67 : Mod (fun x => x = m) w5 w7 := (hm6.drew).trans hm7 (fun _ h => h) (fun _ _ h => h)
              clear hS hS7 hcell hX6 hm6 hm7 h6
              go_wp2
              go_roundw
              case rel => exact ⟨q + 1, by omega, by go_num, ⟨L7, c7, h7⟩, hm67⟩
              case measure => simp [intOf]; omega
            · obtain rfl : q = cs.length := by omega
              rw [List.take_of_length_le (Nat.le_refl _)] at h6
              have hf6 : otherL ((setM M5 (i, g) (dropAll (M5 (i, g)) cs)) (i, g)) c d = [] := by rw [setM_same]; exact HF.out
              have h2 := h6.two (i, g) c hc8
              have hB6 : Below w.heap.size w wr := hB5.trans (hm6.below (by have := hm5s; omega) (fun x hx e => by omega))
              have hws : w.heap.size < wr.heap.size := by have := hm6.size; omega
              have x0 : wr.cell? ⟨w.heap.size, 0, none⟩ = some (.int .i64 i) := hX6 0 (by simp)
              have x1 : wr.cell? ⟨w.heap.size, 1, none⟩ = some (.int .i64 g) := hX6 1 (by simp)
              generalize setM M5 (i, g) (dropAll (M5 (i, g)) cs) = M6 at *
              have hgr := grant_ok wr b m c6 L6 M6 h6 i g c d hc8 hd hf6
              have hmoE : mo ((setM M6 (i, g) (wi (M6 (i, g)) c (max d (mo (M6 (i, g)) c)))) (i, g)) c = max d (mo (M6 (i, g)) c) := by
                rw [setM_same, mo_wi _ hc8 hc8 (by omega), if_pos rfl]
              have hge : (d : Int) ≤ ((mo ((setM M6 (i, g) (wi (M6 (i, g)) c (max d (mo (M6 (i, g)) c)))) (i, g)) c : Nat) : Int) := by rw [hmoE]; omega
              have HG := Lib.hid hgr
              clear hgr hmoE h2 hf6
              generalize setM M6 (i, g) (wi (M6 (i, g)) c (max d (mo (M6 (i, g)) c))) = M7 at *
              clear h6 hm6
              go_wp2_with fail
              refine HG.out.mono ?_
              rintro e w8 ⟨rfl, ⟨L8, c8, h8⟩, hm8⟩
              have hX8 : Lies w8 w.heap.size 0 #[.int .i64 i, .int .i64 g] := fun j hj => by
                have h0 := hX6 j hj
                have hb := hm8.block w.heap.size hws (by omega)
                simp only [World.cell?] at h0 ⊢
                rw [hb]
                exact h0
              have y0 : w8.cell? ⟨w.heap.size, 0, none⟩ = some (.int .i64 i) := hX8 0 (by simp)
              have y1 : w8.cell? ⟨w.heap.size, 1, none⟩ = some (.int .i64 g) := hX8 1 (by simp)
              have hB8 : Below w.heap.size w w8 := hB6.trans (hm8.below (by omega) (fun x hx e => by omega))
              clear x0 x1 hm8 hX6 hB6
              go_wp2_with fail
              refine (mode_yes w8 _ M7 h8.v i g c hc8).mono ?_
              rintro e w9 ⟨rfl, hb9⟩
              generalize ((mo (M7 (i, g)) c : Nat) : Int) = mm at *
              go_wp2_with fail
              refine (lives_any w9).mono ?_
              rintro e w10 ⟨rfl, hb10⟩
              go_wp2
              go_ret
              exact ⟨rfl, hB8.trans ((hb9.trans (hb10.mono hb9.size)).mono hB8.size)⟩
end Go.Proofs.Ytnjiocikpigegaa
