/- The document's take: homes are as a transaction says; walked. -/
import Derived.Test.YtmakpbjknklpiaaGreatMgRpl31
import Derived.Test.YtmakpbjknklpiaaGreatMgRpl14
/- The document's take: homes are as a transaction says; walked. -/
namespace Go.Proofs.YtmakpbjknklpiaaGreat
open Go.RowKit Go.Tn Go.Tn.Bt Go.Tn.Lp Go.Tn.Dk
set_option maxRecDepth 20000 in
set_option maxHeartbeats 4000000 in
theorem ztake_any {w : World} {S F : Nat → Prop} {g p N : Nat} {l : Lg} (h : RLg w S F g p l N) (v : Value) (ps : List Pt) (hp : PtsA w F v ps) (ht : transB ps N = true) (hN : N ≤ 4096) : Calls Tryz.prog 43 #[.pointer (some ⟨g, 0, none⟩), v] w
    fun e w' => e = .returned (.tuple #[]) ∧ RLg w' S F g p { l with H := takeH l.H ps } N ∧ Mod F w w' := by
  obtain ⟨t1, t2, t3, -⟩ := (transB_iff ps N).1 ht
  obtain ⟨ys, hys, hyL, hyo, hyD⟩ := hp
  have hyl : ys.length = ps.length := by rw [← hys]; simp
  obtain ⟨va, vc, rfl, v1, v2, v3⟩ := hyL
  rw [hyl] at v1 v3 hyo ⊢
  unfold maxLen at v2
  obtain ⟨hv, xs, hh, h2, h3, h4, h5⟩ := h.ex
  have hN0 : 0 < N := by
    obtain ⟨q, hq⟩ : ∃ q, ps[0]? = some q := ⟨_, List.getElem?_eq_getElem (by omega)⟩
    have := t3 q (List.mem_of_getElem? hq)
    have h1 := this.1
    have h2 := this.2.1
    omega
  obtain ⟨x0, hx0⟩ : ∃ x, xs[0]? = some x := ⟨_, List.getElem?_eq_getElem (by omega)⟩
  obtain ⟨lb, lo, lc, rfl, -, -⟩ := (h2.sl elB.len).at_ hx0
  obtain ⟨rfl, -⟩ := h2.whole
  rw [h3] at hh h2 h5
  have hlg := (h5 lb rfl).1
  have hlF := (h5 lb rfl).2
  have hps63 : (ps.length : Int) ≤ 24 := by omega
  have hN63 : (N : Int) ≤ 4096 := by omega
  have HH := Lib.hid hh
  have H2 := Lib.hid h2
  have H3 := Lib.hid h3
  have H4 := Lib.hid h4
  have H5 := Lib.hid h5
  have HL := Lib.hid h
  have HYS := Lib.hid hys
  have HYO := Lib.hid hyo
  have HYD := Lib.hid hyD
  have HYL := Lib.hid hyl
  have HV3 := Lib.hid v3
  have HT3 := Lib.hid t3
  have HLG := Lib.hid hlg
  have HLF := Lib.hid hlF
  clear h hh h2 h3 h4 h5 hys hyo hyD hyl v3 t3 ht hx0 hlg hlF
  go_enter Tryz.func43, Tryz.ntmps43
  go_wp2_with fail
  go_loopw [4] (fun iv wi => ∃ k : Nat, k ≤ ps.length ∧ iv = .int .i64 k ∧ (∃ zs : List (List Nat × Sv), zs.length = N ∧ LOut enB 1 53 0 wi (.slice (some ⟨lb, 0, none⟩) N lc) zs ∧ ∀ j x, zs[j]? = some x → x.1 = (takeH l.H (ps.take k) j).getD [] ∧ Dat wi S x.2 x.1) ∧ Mod (fun b => b = lb) w wi) (fun iv _ => ps.length - (intOf iv).toNat)
  case atStart => exact ⟨0, Nat.zero_le _, rfl, ⟨xs, H3.out, H2.out, H4.out⟩, Mod.refl _ _⟩
  case round =>
    obtain ⟨k, hk, rfl, ⟨zs, hz1, hz2, hz3⟩, hm⟩ := hrel
    have hhr := hm.heap HH.out fun e => HLG.out e.symm
    by_cases hkl : k < ps.length
    · have hkl' : (k : Int) < (ps.length : Int) := by omega
      have hdk : decide (k < ps.length) = true := by simp [hkl]
      obtain ⟨y, hy⟩ : ∃ y, ys[k]? = some y := ⟨_, List.getElem?_eq_getElem (by rw [HYL.out]; exact hkl)⟩
      have hpy : ps[k]? = some y.1 := by rw [← HYS.out, List.getElem?_map, hy]; rfl
      have hdy := HYD.out y (List.mem_of_getElem? hy)
      have hgy := HT3.out _ (List.mem_of_getElem? hpy)
      obtain ⟨gq, go, rfl, hgl, hcq⟩ := HV3.out (by omega)
      have hgr : ¬ gq = lb := fun e => HYO.out gq rfl (e ▸ HLF.out)
      have hlq := lies_mod (S := fun b => b = lb) (hcq k _ hy) hm hgr
      have hts := take_snoc hpy
      obtain ⟨⟨at_, dat⟩, ⟨ya, yn, yc⟩⟩ := y
      obtain ⟨e1, e2, e3⟩ := hgy
      simp only at e1 e2 e3 hdy
      obtain ⟨at_, rfl⟩ := Int.eq_ofNat_of_zero_le e1
      have hat : at_ < N := by omega
      have r0 : wr.drew.cell? ⟨gq, go + k * 2, none⟩ = some (.int .i64 (at_ : Nat)) := hlq 0 (by simp [enPt])
      have r1 : wr.drew.cell? ⟨gq, go + k * 2 + 1, none⟩ = some (.slice ya yn yc) := hlq 1 (by simp [enPt, sv])
      have c6 : wr.drew.cell? ⟨g, 6, none⟩ = some (.slice (some ⟨lb, 0, none⟩) N lc) := cell_of (o := 6) hhr rfl
      have hdr : LSl en8 1 wr (.slice ya yn yc) dat := hdy.1.mod hm fun r hr e => hdy.2 r hr (e ▸ HLF.out)
      have hcp := rcopy_any wr.drew _ _ (hdr.below (Below.refl _ wr).drew) (by omega)
      have hza : zs[at_]? = some (zs[at_]'(by omega)) := List.getElem?_eq_getElem (by omega)
      generalize (zs[at_]'(by omega)) = z at hza
      have hai : (at_ : Int) < (N : Int) := by omega
      have hglt : gq < wr.heap.size := Nat.lt_of_lt_of_le hgl hm.size
      have hgwl : g < wr.heap.size := lt_of_block hhr
      have hlbl : lb < wr.heap.size := hz2.lt rfl
      have hfr : ∀ W, Below wr.heap.size wr W → W.cell? ⟨g, 6, none⟩ = some (.slice (some ⟨lb, 0, none⟩) N lc) ∧ W.cell? ⟨gq, go + k * 2, none⟩ = some (.int .i64 (at_ : Nat)) ∧ W.cell? ⟨gq, go + k * 2 + 1, none⟩ = some (.slice ya yn yc) := fun W hW => ⟨(hW.cell (p := ⟨g, 6, none⟩) hgwl).trans c6, (hW.cell (p := ⟨gq, go + k * 2, none⟩) hglt).trans r0, (hW.cell (p := ⟨gq, go + k * 2 + 1, none⟩) hglt).trans r1⟩
      have hS := hfr _ (Below.refl _ wr).drew
      have HFR := Lib.hid hfr
      have HZ1 := Lib.hid hz1
      have HZ2 := Lib.hid hz2
      have HZ3 := Lib.hid hz3
      have HM := Lib.hid hm
      have HZA := Lib.hid hza
      have HTS := Lib.hid hts
      have HE3 := Lib.hid e3
      clear hfr hz1 hz2 hz3 hm hza hts hhr hy hpy hdy hcq hlq hdr r0 r1 c6 e1 e2 e3
      go_upto_region 3 with fail
      refine wp_region_x (fun w' => w'.cell? ⟨g, 6, none⟩ = some (.slice (some ⟨lb, 0, none⟩) N lc) ∧ w'.cell? ⟨gq, go + k * 2, none⟩ = some (.int .i64 (at_ : Nat)) ∧ w'.cell? ⟨gq, go + k * 2 + 1, none⟩ = some (.slice ya yn yc)) [(0, 1), (1, 1), (2, 1), (3, 0), (4, 1), (5, 1), (6, 1), (7, 1), (8, 0), (9, 1), (10, 1), (11, 1), (12, 1), (13, 0), (14, 2), (15, 1), (16, 3)] (by kernel_rfl) (by kernel_rfl) (by intro d v c a w h; cases d <;> exact h) ?_
      iterate 3 (refine x_take rfl (fun K hK => ?_); go_simp; refine hK _ ?_; clear hK K)
      refine x_read rfl hS (fun w' h => exec_load1 ⟨⟨_, Tryz.underlying50, rfl⟩⟩ rfl h.1) ?_
      iterate 4 (refine x_take rfl (fun K hK => ?_); go_simp; refine hK _ ?_; clear hK K)
      refine x_read rfl hS (fun w' h => exec_load1 ⟨⟨_, Tryz.underlying3, rfl⟩⟩ rfl h.2.1) ?_
      iterate 4 (refine x_take rfl (fun K hK => ?_); go_simp; refine hK _ ?_; clear hK K)
      refine x_read rfl hS (fun w' h => exec_load1 ⟨⟨_, Tryz.underlying53, rfl⟩⟩ rfl h.2.2) ?_
      refine x_show' rfl (fun K hK => ?_)
      go_simp
      refine hcp.mono ?_
      rintro e w3 ⟨v3, rfl, hO3, hb3⟩
      obtain ⟨a3, n3, c3, rfl⟩ := LOut.shape hO3
      have hb13 : Below wr.heap.size wr w3 := (Below.refl _ wr).drew.trans hb3
      refine hK _ _ (HFR.out _ hb13) ?_
      clear hK K hS
      iterate 1 (refine x_take rfl (fun K hK => ?_); go_simp; refine hK _ ?_; clear hK K)
      have hz23 := HZ2.out.below hb13
      have hset := LOut.set elB.len hz23 (i := at_) (j := 0) (y := (dat, (a3, n3, c3))) (u := .slice a3 n3 c3) HZA.out (by decide) rfl
      simp only [Nat.mul_one, Nat.add_zero, Nat.zero_add] at hset
      have hc6 : w3.cell? ⟨lb, at_, none⟩ = some (sv z.2) := by
        have := hz23.lies elB.len HZA.out 0 (by simp [enB])
        simpa [enB] using this
      have hf6 : w3.frozen? ⟨lb, at_, none⟩ = false := hz23.frozen at_
      refine x_skip rfl (exec_store1 (v := .slice a3 n3 c3) ⟨⟨_, Tryz.underlying53, rfl⟩⟩ (by kernel_rfl) rfl rfl rfl hc6 hf6) ?_
      refine x_nil ?_
      have hm4 : Mod (fun b => b = lb) w3 (w3.setCell ⟨lb, at_, none⟩ (.slice a3 n3 c3)) := (Mod.refl _ _).setCell _ _ fun _ => rfl
      have hmr : Mod (fun b => b = lb) wr (w3.setCell ⟨lb, at_, none⟩ (.slice a3 n3 c3)) := (mod0 hb13).trans hm4 (fun _ h => h.elim) fun _ _ h => h
      have HSET := Lib.hid hset
      have HM4 := Lib.hid hm4
      have HMR := Lib.hid hmr
      have HO3 := Lib.hid hO3
      have HB13 := Lib.hid hb13
      clear hset hm4 hmr hO3 hb13 hb3 hz23 hc6 hf6 hcp
      go_wp2
      go_roundw
      case rel =>
        have hSl : ∀ b, S b → b < wr.heap.size := fun b hb => Nat.lt_of_lt_of_le (HL.out.lt b hb) HM.out.size
        refine ⟨k + 1, by omega, by go_num, ⟨_, by rw [List.length_set]; exact HZ1.out, HSET.out, fun j x hx => ?_⟩, HM.out.trans HMR.out (fun _ h => h) fun _ _ h => h⟩
        rw [HTS.out, takeH_snoc]
        simp only
        rw [List.getElem?_set] at hx
        by_cases hj : at_ = j
        · subst hj
          rw [if_pos rfl] at hx
          rw [if_pos rfl]
          split at hx
          · obtain rfl := Option.some.inj hx
            have h1 : ∀ r, (Value.slice a3 n3 c3).ownBlock = some r → wr.heap.size ≤ r ∧ r < w3.heap.size := fun r hr => ⟨HO3.out.lo r hr, HO3.out.lt hr⟩
            refine ⟨rfl, (HO3.out.sl el8.len).mod HM4.out fun r hr e => ?_, fun r hr => ⟨fun e => ?_, Nat.lt_of_lt_of_le (h1 r hr).2 HM4.out.size⟩⟩
            · have := (h1 r hr).1
              omega
            · have := (h1 r hr).1
              have := hSl r e
              omega
          · cases hx
        · rw [if_neg hj] at hx
          rw [if_neg (by omega)]
          exact ⟨(HZ3.out j x hx).1, (HZ3.out j x hx).2.turn HMR.out (fun b hb => hb ▸ HL.out.fs lb HLF.out) fun _ h => .inl h⟩
      case measure => simp [intOf]; omega
    · obtain rfl : k = ps.length := by omega
      have hdk : decide (ps.length < ps.length) = false := by simp
      rw [List.take_length] at hz3
      have hfin : RLg wr S F g p { l with H := takeH l.H ps } N :=
        ⟨⟨_, zs, hhr, hz2, hz1, hz3, HH.out |> fun _ => H5.out⟩, HL.out.fg, HL.out.fs, fun b hb => Nat.lt_of_lt_of_le (HL.out.lt b hb) hm.size⟩
      have HFIN := Lib.hid hfin
      have HM := Lib.hid hm
      clear hfin hm hz1 hz2 hz3 hhr
      go_wp2
      (try simp only [Exit.inBlock, Exit.then]); refine bodyPost_end (results_none rfl _ _ _) rfl ?_
      exact ⟨rfl, HFIN.out, HM.out.mono fun x _ hx => hx ▸ HLF.out⟩
end Go.Proofs.YtmakpbjknklpiaaGreat
