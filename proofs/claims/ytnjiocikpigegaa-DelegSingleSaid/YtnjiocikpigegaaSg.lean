/- The walk of the law DelegSingle. -/
import Derived.Test.YtnjiocikpigegaaDo
import Derived.Deep.DeepCutAuto
import Derived.Deep.CutBlock
namespace Go.Proofs.Ytnjiocikpigegaa
open Go.RowKit Go.Tn Go.Tn.Mo Go.Maps Go.Sort Go.Shelf

/-- Where the loop stands. -/
structure Inv (w0 w : World) (b m : Nat) (M : Fi → Nat) (A : List Fi) : Prop where
  tab : ∃ L clk, TabAt w b m L clk M
  sg : Single M
  am : Among M A
  bel : Below w0.heap.size w0 w
theorem Inv.op {w0 w w' : World} {b m : Nat} {M M' : Fi → Nat} {A : List Fi} (h : Inv w0 w b m M A) (hm0 : w0.heap.size ≤ m) (ht : ∃ L clk, TabAt w' b m L clk M') (hm : Mod (fun x => x = m) w w') (hs : Single M') (x : Fi) (ha : Among M' (A ++ [x])) : Inv w0 w' b m M' (A ++ [x]) :=
  ⟨ht, hs, ha, h.bel.trans (hm.below h.bel.size (fun y hy e => by omega))⟩
theorem Inv.keep {w0 w w' : World} {b m : Nat} {M : Fi → Nat} {A : List Fi} (h : Inv w0 w b m M A) (hb : Below w.heap.size w w') : Inv w0 w' b m M A := by
  obtain ⟨L, clk, ht⟩ := h.tab
  exact ⟨⟨L, clk, ht.below hb ht.b_lt ht.m_lt⟩, h.sg, h.am, h.bel.trans (hb.mono h.bel.size)⟩
theorem Inv.bel1 {w0 w w' : World} {b m : Nat} {M : Fi → Nat} {A : List Fi} (h : Inv w0 w b m M A) (hb : Below w.heap.size w w') : Inv w0 w' b m M A := h.keep hb
theorem Inv.more {w0 w : World} {b m : Nat} {M : Fi → Nat} {A : List Fi} (h : Inv w0 w b m M A) (x : Fi) : Inv w0 w b m M (A ++ [x]) := ⟨h.tab, h.sg, h.am.less x (fun _ h => h), h.bel⟩
theorem Inv.drew {w0 w : World} {b m : Nat} {M : Fi → Nat} {A : List Fi} (h : Inv w0 w b m M A) : Inv w0 w.drew b m M A := by
  obtain ⟨L, clk, ht⟩ := h.tab
  exact ⟨⟨L, clk, ht.blk, ht.map, ht.wf, ht.ne, ht.get, ht.lt, ht.two⟩, h.sg, h.am, h.bel.drew⟩
theorem Inv.tabL {w0 w : World} {b m : Nat} {M : Fi → Nat} {A : List Fi} (h : Inv w0 w b m M A) (hA : A.length ≤ 1000) : TabL w (.pointer (some ⟨b, 0, none⟩)) M := by
  obtain ⟨L, clk, ht⟩ := h.tab
  exact .inr ⟨b, m, L, clk, rfl, ht, Nat.le_trans (tab_len ht A h.am) hA⟩

set_option maxRecDepth 20000 in
set_option maxHeartbeats 16000000 in
theorem single_walk (w : World) (v : Value) (ds : List DoR) (hv : LSl enD 5 w v ds) : Calls Try.prog 5 #[v] w fun e w' => e = .returned (.bool true) ∧ Below w.heap.size w w' := by
  obtain ⟨ao, cap, rfl, hcl, hcm, hx⟩ := hv
  unfold maxLen at hcm
  go_enter Try.func5, Try.ntmps5
  go_wp2_with fail
  refine (new_any w).mono ?_
  rintro e w2 ⟨b, m, rfl, h2, hbb, hmm, hb2⟩
  have hI2 : Inv w w2 b m (fun _ => 0) [] := ⟨⟨_, _, h2⟩, Single.none, Among.none, hb2⟩
  clear h2 hb2
  go_wp2
  go_loopw [4] (fun kv wr => ∃ k : Nat, k ≤ 80 ∧ kv = .int .i64 k ∧ ∃ M A, A.length = k ∧ Inv w wr b m M A) (fun kv _ => 80 - (intOf kv).toNat)
  case atStart => exact ⟨0, by omega, rfl, _, [], rfl, hI2⟩
  case round =>
    obtain ⟨k, hk, rfl, M, A, hAl, hI⟩ := hrel
    clear hI2
    by_cases hgo : k < ds.length ∧ k < 80
    · obtain ⟨hkl, hk4⟩ := hgo
      have hkl' : (k : Int) < (ds.length : Int) := by omega
      have hk4' : (k : Int) < 80 := by omega
      obtain ⟨bh, off, rfl, hbh, hcs⟩ := hx (by omega)
      have hD := (hcs k _ (List.getElem?_eq_getElem hkl)).below' hI.bel hbh
      clear hcs hx
      generalize ds[k] = dd at *
      obtain ⟨kd, dc, dm, di, dg⟩ := dd
      have d0 : wr.cell? ⟨bh, off + k * 5, none⟩ = some (.int .i64 kd) := hD 0 (by simp [enD])
      have d1 : wr.cell? ⟨bh, off + k * 5 + 1, none⟩ = some (.int .i64 dc) := hD 1 (by simp [enD])
      have d2 : wr.cell? ⟨bh, off + k * 5 + 2, none⟩ = some (.int .i64 dm) := hD 2 (by simp [enD])
      have d3 : Lies wr bh (off + k * 5 + 3) #[.int .i64 di, .int .i64 dg] := fun j hj => by
        match j, hj with
        | 0, _ => exact hD 3 (by simp [enD])
        | 1, _ => exact hD 4 (by simp [enD])
      obtain ⟨L, clk, hT⟩ := hI.tab
      have hbm : bh ≠ m := by omega
      have hbl : bh < wr.heap.size := by have := hI.bel.size; omega
      clear hD
      go_upto_block 2 with (fail)
      go_cut [3] (fun s wx => s = .pointer (some ⟨b, 0, none⟩) ∧ ∃ M A, A.length = k + 1 ∧ Inv w wx b m M A)
      case first =>
        obtain hk | hk | hk | hk | ⟨hk0, hk1, hk2, hk3⟩ : kd = 0 ∨ kd = 1 ∨ kd = 2 ∨ kd = 3 ∨ (kd ≠ 0 ∧ kd ≠ 1 ∧ kd ≠ 2 ∧ kd ≠ 3) := by omega
        · subst hk
          go_upto_region 7 with (fail)
          refine wp_region_x (fun w' => w'.cell? ⟨bh, off + k * 5 + 1, none⟩ = some (.int .i64 dc) ∧ w'.cell? ⟨bh, off + k * 5 + 2, none⟩ = some (.int .i64 dm) ∧ Lies w' bh (off + k * 5 + 3) #[.int .i64 di, .int .i64 dg]) [(0, 1), (1, 1), (2, 1), (3, 1), (4, 1), (5, 0), (6, 1), (7, 1), (8, 1), (9, 1), (10, 0), (11, 1), (12, 1), (13, 1), (14, 1), (15, 0), (16, 2)] (by kernel_rfl) (by kernel_rfl) (by intro d v c a w h; cases d <;> exact h) ?_
          have hS : wr.drew.cell? ⟨bh, off + k * 5 + 1, none⟩ = some (.int .i64 dc) ∧ wr.drew.cell? ⟨bh, off + k * 5 + 2, none⟩ = some (.int .i64 dm) ∧ Lies wr.drew bh (off + k * 5 + 3) #[.int .i64 di, .int .i64 dg] := ⟨d1, d2, d3⟩
          iterate 5 (refine x_take rfl (fun K hK => ?_); go_simp; refine hK _ ?_; clear hK K)
          refine x_read rfl hS (fun w' h => exec_loadA (aggF _ _) rfl h.2.2) ?_
          iterate 4 (refine x_take rfl (fun K hK => ?_); go_simp; refine hK _ ?_; clear hK K)
          refine x_read rfl hS (fun w' h => exec_load1 ⟨⟨_, Try.underlying3, rfl⟩⟩ rfl h.1) ?_
          iterate 4 (refine x_take rfl (fun K hK => ?_); go_simp; refine hK _ ?_; clear hK K)
          refine x_read rfl hS (fun w' h => exec_load1 ⟨⟨_, Try.underlying3, rfl⟩⟩ rfl h.2.1) ?_
          have hTd : TabAt wr.drew b m L clk M := ⟨hT.blk, hT.map, hT.wf, hT.ne, hT.get, hT.lt, hT.two⟩
          refine x_show' rfl (fun K hK => ?_)
          go_simp
          refine (grant_any _ b m clk L M hTd di dg dc dm).mono ?_
          rintro e w4 ⟨rfl, h4, hm4⟩
          have hb := hm4.block bh hbl hbm
          have hS4 : w4.cell? ⟨bh, off + k * 5 + 1, none⟩ = some (.int .i64 dc) ∧ w4.cell? ⟨bh, off + k * 5 + 2, none⟩ = some (.int .i64 dm) ∧ Lies w4 bh (off + k * 5 + 3) #[.int .i64 di, .int .i64 dg] := by
            refine ⟨?_, ?_, fun j hj => ?_⟩
            · exact (World.cell?_of_block (a := ⟨bh, off + k * 5 + 1, none⟩) hb).trans d1
            · exact (World.cell?_of_block (a := ⟨bh, off + k * 5 + 2, none⟩) hb).trans d2
            · exact (World.cell?_of_block (a := ⟨bh, off + k * 5 + 3 + j, none⟩) hb).trans (d3 j hj)
          refine hK _ _ hS4 ?_
          clear hK K
          refine x_nil ?_
          have hI4 := hI.drew.op hmm h4 hm4 (hI.sg.grant hT.two (di, dg) dc dm) (di, dg) (hI.am.grant (di, dg) dc dm)
          go_wp2
          go_meet
          case rel => exact ⟨rfl, _, _, by rw [List.length_append, hAl]; rfl, hI4⟩
        · subst hk
          go_upto_region 9 with (fail)
          refine wp_region_x (fun w' => w'.cell? ⟨bh, off + k * 5 + 1, none⟩ = some (.int .i64 dc) ∧ Lies w' bh (off + k * 5 + 3) #[.int .i64 di, .int .i64 dg]) [(0, 1), (1, 1), (2, 1), (3, 1), (4, 1), (5, 0), (6, 1), (7, 1), (8, 1), (9, 1), (10, 0), (11, 2)] (by kernel_rfl) (by kernel_rfl) (by intro d v c a w h; cases d <;> exact h) ?_
          have hS : wr.drew.cell? ⟨bh, off + k * 5 + 1, none⟩ = some (.int .i64 dc) ∧ Lies wr.drew bh (off + k * 5 + 3) #[.int .i64 di, .int .i64 dg] := ⟨d1, d3⟩
          iterate 5 (refine x_take rfl (fun K hK => ?_); go_simp; refine hK _ ?_; clear hK K)
          refine x_read rfl hS (fun w' h => exec_loadA (aggF _ _) rfl h.2) ?_
          iterate 4 (refine x_take rfl (fun K hK => ?_); go_simp; refine hK _ ?_; clear hK K)
          refine x_read rfl hS (fun w' h => exec_load1 ⟨⟨_, Try.underlying3, rfl⟩⟩ rfl h.1) ?_
          have hTd : TabAt wr.drew b m L clk M := ⟨hT.blk, hT.map, hT.wf, hT.ne, hT.get, hT.lt, hT.two⟩
          refine x_show' rfl (fun K hK => ?_)
          go_simp
          refine (drop_any _ b m clk L M hTd di dg dc).mono ?_
          rintro e w4 ⟨rfl, h4, hm4⟩
          have hb := hm4.block bh hbl hbm
          have hS4 : w4.cell? ⟨bh, off + k * 5 + 1, none⟩ = some (.int .i64 dc) ∧ Lies w4 bh (off + k * 5 + 3) #[.int .i64 di, .int .i64 dg] := by
            refine ⟨?_, fun j hj => ?_⟩
            · exact (World.cell?_of_block (a := ⟨bh, off + k * 5 + 1, none⟩) hb).trans d1
            · exact (World.cell?_of_block (a := ⟨bh, off + k * 5 + 3 + j, none⟩) hb).trans (d3 j hj)
          refine hK _ _ hS4 ?_
          clear hK K
          refine x_nil ?_
          have hI4 := hI.drew.op hmm h4 hm4 (hI.sg.less (less_drop M (di, dg) dc)) (di, dg) (hI.am.less (di, dg) (zero_drop M (di, dg) dc))
          go_wp2
          go_meet
          case rel => exact ⟨rfl, _, _, by rw [List.length_append, hAl]; rfl, hI4⟩
        · subst hk
          have hll : L.length ≤ 1000 := Nat.le_trans (tab_len hT A hI.am) (by omega)
          obtain ⟨FL, hFL⟩ : ∃ FL, FilesOf M FL := ⟨_, sortF_files hT (List.Perm.refl _)⟩
          have hcall := dropClient_any wr b m clk L M hT hll FL hFL dc
          have HC := Lib.hid hcall
          clear hcall
          go_wp2_with fail
          refine HC.out.mono ?_
          rintro e w4 ⟨⟨v4, rfl, _⟩, h4, hm4⟩
          have hI4 := hI.op hmm h4 hm4 (hI.sg.less (less_dropC M dc)) (di, dg) (hI.am.less (di, dg) (zero_dropC M dc))
          go_wp2
          go_meet
          case rel => exact ⟨rfl, _, _, by rw [List.length_append, hAl]; rfl, hI4⟩
        · subst hk
          have hcall := dropFile_any wr b m clk L M hT di dg
          have HC := Lib.hid hcall
          have H3 := Lib.hid d3
          clear hcall
          go_wp2_with (first
            | ((with_reducible refine wpList_loadA (aggF di dg) H3.out ?_ ?_); rfl; go_frame)
            | fail)
          refine HC.out.mono ?_
          rintro e w4 ⟨⟨v4, rfl, _⟩, h4, hm4⟩
          have hI4 := hI.op hmm h4 hm4 (hI.sg.less (less_dropF M (di, dg))) (di, dg) (hI.am.less (di, dg) (zero_dropF M (di, dg)))
          go_wp2
          go_meet
          case rel => exact ⟨rfl, _, _, by rw [List.length_append, hAl]; rfl, hI4⟩
        · have t0 : (kd == 0) = false := by simpa using hk0
          have t1 : (kd == 1) = false := by simpa using hk1
          have t2 : (kd == 2) = false := by simpa using hk2
          have t3 : (kd == 3) = false := by simpa using hk3
          have hI4 := hI.more (di, dg)
          clear hk0 hk1 hk2 hk3
          go_wp2
          go_meet
          case rel => exact ⟨rfl, _, _, by rw [List.length_append, hAl]; rfl, hI4⟩
      case rest =>
        clear hI hT d0 d1 d2 d3 hbm hbl hAl
        obtain ⟨rfl, M2, A2, hA2, hI2⟩ := hcut
        obtain ⟨w5, hw5⟩ : ∃ w5, w5 = wc := ⟨_, rfl⟩
        subst hw5
        have hTL := hI2.tabL (by omega)
        go_wp2_with fail
        refine (files_any w5 _ M2 hTL).mono ?_
        rintro e w6 ⟨v6, FL, rfl, hFL, hFlen, hR6, hb6⟩
        have hI6 := hI2.keep hb6
        have hV6 : TabV w6 (.pointer (some ⟨b, 0, none⟩)) M2 := hTL.v.below hb6
        have hsl6 := hR6.sl
        obtain ⟨ao6, cap6, rfl, hcl6, hcm6, _⟩ := hR6.sl
        unfold maxLen at hcm6
        have hnz : ∀ f ∈ FL, M2 f ≠ 0 := fun f hf => (hFL.2 f).1 hf
        have htw : ∀ f c, c < 8 → mo (M2 f) c ≤ 2 := by
          obtain ⟨L6, c6, h6⟩ := hI6.tab
          exact h6.two
        have hsg := hI6.sg
        have HZ := Lib.hid hnz
        have HT := Lib.hid htw
        have HG := Lib.hid hsg
        clear hTL hI2 hFL hnz htw hsg hR6 hb6
        go_wp2
        go_loopw [6] (fun kv wq => ∃ j : Nat, j ≤ FL.length ∧ kv = .int .i64 j ∧ Below w6.heap.size w6 wq) (fun kv _ => FL.length - (intOf kv).toNat)
        case atStart => exact ⟨0, Nat.zero_le _, rfl, Below.refl _ _⟩
        case round =>
          obtain ⟨j, hj, rfl, hbq⟩ := hrel
          obtain ⟨wq, hwq⟩ : ∃ wq, wq = wr := ⟨_, rfl⟩
          subst hwq
          by_cases hjl : j < FL.length
          · have hjl' : (j : Int) < (FL.length : Int) := by omega
            obtain ⟨b6, o6, cap7, hveq, hb6l, hco⟩ := hsl6.at_ (List.getElem?_eq_getElem hjl)
            obtain ⟨rfl, rfl⟩ : ao6 = some ⟨b6, o6, none⟩ ∧ cap6 = cap7 := by simpa using hveq
            have hl := hco.below' hbq hb6l
            have hMf := HZ.out FL[j] (List.getElem_mem hjl)
            have hVq := hV6.below hbq
            clear hco hveq
            generalize FL[j] = f at *
            obtain ⟨i, g⟩ := f
            have hHold := holders_any wq _ M2 hVq i g
            have hlt8 := (hVq.lt (i, g))
            have hex : holdL (M2 (i, g)) 8 ≠ [] := fun hn => hMf ((mo_zero _ hlt8).2 fun c hc => Decidable.byContradiction fun hne => by
              have : c ∈ holdL (M2 (i, g)) 8 := holdL_mem.2 ⟨hc, hne⟩
              rw [hn] at this
              cases this)
            have hone : ∀ x ∈ holdL (M2 (i, g)) 8, x < 8 ∧ (mo (M2 (i, g)) x = 1 ∨ (mo (M2 (i, g)) x = 2 ∧ (holdL (M2 (i, g)) 8).length = 1)) := fun x hxm => by
              obtain ⟨h8, hne⟩ := holdL_mem.1 hxm
              refine ⟨h8, ?_⟩
              have h2 := HT.out (i, g) x h8
              by_cases h1 : mo (M2 (i, g)) x = 1
              · exact .inl h1
              · refine .inr ⟨by omega, ?_⟩
                have hsub := subset_len (holdL_nodup (M2 (i, g))) (ys := [x]) fun y hy => by
                  obtain ⟨y8, yne⟩ := holdL_mem.1 hy
                  by_cases hyx : y = x
                  · simp [hyx]
                  · exact absurd (HG.out (i, g) x y h8 y8 (fun e => hyx e.symm) (by omega)) yne
                have := List.length_pos_iff.2 hex
                simp at hsub
                omega
            have hlenz : (((holdL (M2 (i, g)) 8).length : Int) == 0) = false := by
              have := List.length_pos_iff.2 hex
              simpa using (show ¬ ((holdL (M2 (i, g)) 8).length : Int) = 0 by omega)
            have hil : (ints (holdL (M2 (i, g)) 8)).length = (holdL (M2 (i, g)) 8).length := ints_len _
            have hget : ∀ (q : Nat) (hq : q < (holdL (M2 (i, g)) 8).length), (ints (holdL (M2 (i, g)) 8))[q]? = some (((holdL (M2 (i, g)) 8)[q] : Nat) : Int) := fun q hq => by simp [ints, hq]
            have HO := Lib.hid hone
            have HH := Lib.hid hHold
            have HL := Lib.hid hl
            clear hHold hone hex hMf hlt8 hl
            go_wp2_with (first
              | ((with_reducible refine wpList_loadA (aggF i g) HL.out ?_ ?_); rfl; go_frame)
              | fail)
            refine HH.out.mono ?_
            rintro e w7 ⟨⟨v7, rfl, hO7⟩, hb7⟩
            have hsl7 := hO7.sl elI.len
            have hV7 := hVq.below hb7
            have hs67 : w6.heap.size ≤ wq.heap.size := hbq.size
            have hl7 : Lies w7 b6 (o6 + j * 2) (enF (i, g)).toArray := HL.out.below' hb7 (by omega)
            have hbw7 : Below w6.heap.size w6 w7 := hbq.trans (hb7.mono hbq.size)
            have hb67 : b6 < w7.heap.size := by have := hb7.size; omega
            clear hO7 hb7 hbq hVq HH HL
            generalize holdL (M2 (i, g)) 8 = hs at *
            generalize ints hs = ihs at *
            have hsl8 := hsl7
            obtain ⟨ao7, cap8, rfl, hcl7, hcm7, _⟩ := hsl7
            rw [hil] at hcl7
            rw [hil]
            unfold maxLen at hcm7
            go_wp2
            go_loopw [8] (fun kv wz => ∃ q : Nat, q ≤ hs.length ∧ kv = .int .i64 q ∧ Below w7.heap.size w7 wz) (fun kv _ => hs.length - (intOf kv).toNat)
            case atStart => exact ⟨0, Nat.zero_le _, rfl, Below.refl _ _⟩
            case round =>
              obtain ⟨q, hq, rfl, hbz⟩ := hrel
              by_cases hql : q < hs.length
              · have hql' : (q : Int) < (hs.length : Int) := by omega
                obtain ⟨b7, o7, cap9, hveq, hb7l, hco⟩ := hsl8.at_ (hget q hql)
                obtain ⟨rfl, rfl⟩ : ao7 = some ⟨b7, o7, none⟩ ∧ cap8 = cap9 := by simpa using hveq
                have hcell : wr.cell? ⟨b7, o7 + q, none⟩ = some (.int .i64 ((hs[q] : Nat) : Int)) := intCell (hco.below' hbz hb7l)
                have hlz : Lies wr b6 (o6 + j * 2) #[.int .i64 i, .int .i64 g] := hl7.below' hbz hb67
                obtain ⟨hx8, hx12⟩ := HO.out hs[q] (List.getElem_mem hql)
                have hmode := mode_yes wr.drew _ M2 ((hV7.below hbz).below (Below.refl _ wr).drew) i g hs[q] hx8
                have hbs : b6 < wr.drew.heap.size := by have := hbz.size; show b6 < wr.heap.size; omega
                have hbt : b7 < wr.drew.heap.size := by have := hbz.size; show b7 < wr.heap.size; omega
                clear hveq hco hget hx8
                generalize hs[q] = x at *
                have hS : Lies wr.drew b6 (o6 + j * 2) #[.int .i64 i, .int .i64 g] ∧ wr.drew.cell? ⟨b7, o7 + q, none⟩ = some (.int .i64 (x : Int)) := ⟨hlz, hcell⟩
                clear hlz hcell
                rcases hx12 with h1 | ⟨h2, hl1⟩
                case' inl =>
                  rw [h1] at hmode
                  clear h1
                case' inr =>
                  rw [h2] at hmode
                  have hl1' : ((hs.length : Int) == 1) = true := by simpa using (show (hs.length : Int) = 1 by omega)
                  have hl1'' : ((hs.length : Int) != 1) = false := by simp [bne, hl1']
                  clear h2 hl1
                all_goals
                  have HMo := Lib.hid hmode
                  clear hmode
                  go_upto_region 24 with (fail)
                  refine wp_region_x (fun w' => Lies w' b6 (o6 + j * 2) #[.int .i64 i, .int .i64 g] ∧ w'.cell? ⟨b7, o7 + q, none⟩ = some (.int .i64 (x : Int))) [(0, 1), (1, 1), (2, 1), (3, 1), (4, 0), (5, 1), (6, 1), (7, 1), (8, 0), (9, 2), (10, 1)] (by kernel_rfl) (by kernel_rfl) (by intro d v c a w h; cases d <;> exact h) ?_
                  iterate 4 (refine x_take rfl (fun K hK => ?_); go_simp; refine hK _ ?_; clear hK K)
                  refine x_read rfl hS (fun w' h => exec_loadA (aggF _ _) rfl h.1) ?_
                  iterate 3 (refine x_take rfl (fun K hK => ?_); go_simp; refine hK _ ?_; clear hK K)
                  refine x_read rfl hS (fun w' h => exec_load1 ⟨⟨_, Try.underlying3, rfl⟩⟩ rfl h.2) ?_
                  refine x_show' rfl (fun K hK => ?_)
                  go_simp
                  refine HMo.out.mono ?_
                  rintro e w9 ⟨rfl, hb9⟩
                  refine hK _ _ ⟨hS.1.below' hb9 hbs, (hb9.cell (p := ⟨b7, o7 + q, none⟩) hbt).trans hS.2⟩ ?_
                  clear hK K hS
                  iterate 1 (refine x_take rfl (fun K hK => ?_); go_simp; refine hK _ ?_; clear hK K)
                  refine x_nil ?_
                  have hbz9 : Below w7.heap.size w7 w9 := hbz.trans ((((Below.refl wr.heap.size wr).drew.trans hb9)).mono hbz.size)
                  clear hbz hb9
                  go_wp2
                  go_roundw
                  case rel => exact ⟨q + 1, by omega, by go_num, hbz9⟩
                  case measure => simp [intOf]; omega
              · obtain rfl : q = hs.length := by omega
                go_wp2
                go_roundw
                case rel => exact ⟨j + 1, by omega, by go_num, hbw7.trans (hbz.mono hbw7.size)⟩
                case measure => simp [intOf]; omega
          · obtain rfl : j = FL.length := by omega
            go_wp2
            go_roundw
            case rel => exact ⟨k + 1, by omega, by go_num, M2, A2, hA2, hI6.bel1 hbq⟩
            case measure => simp [intOf]; omega
    · have hstop : (ds.length : Int) ≤ (k : Int) ∨ ((k : Int) < (ds.length : Int) ∧ (80 : Int) ≤ (k : Int)) := by omega
      have hB := hI.bel
      clear hgo hx
      rcases hstop with hstop | ⟨hstop, hstop'⟩
      all_goals
        go_wp2_with fail
        refine (lives_any wr).mono ?_
        rintro e w4 ⟨rfl, hb4⟩
        go_wp2
        go_ret
        exact ⟨rfl, hB.trans (hb4.mono hB.size)⟩
end Go.Proofs.Ytnjiocikpigegaa
