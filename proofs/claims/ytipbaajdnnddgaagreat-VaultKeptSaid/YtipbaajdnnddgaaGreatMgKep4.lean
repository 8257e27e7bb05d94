/- VaultKept: walked. -/
import Derived.Test.YtipbaajdnnddgaaGreatMgKep3
import Derived.Test.YtipbaajdnnddgaaGreatMgVlj28
/- VaultKept: walked. -/
namespace Go.Proofs.YtipbaajdnnddgaaGreat
open Go.RowKit Go.Tn Go.Tn.Bt Go.Tn.Lp Go.Tn.Dk Go.Tn.Ino
/-- Where it stands. -/
structure KSt (w : World) (i : Nat) (vb p bx bm boot : Nat) (wi : World) : Prop where
  ex : ∃ s g F FD l d r x m, VAt wi F FD vb s g p l d r ∧ VMode (3 * i + 4) l d r x m ∧ d.Q.length ≤ 20000 * (i + 1) ∧ (∀ b, (F b ∨ FD b) ∨ b = vb → w.heap.size ≤ b ∧ b ≠ bx ∧ b ≠ bm) ∧
    wi.heap[bx]? = some (.cells (docC x) 53 (0, 0)) ∧ wi.heap[bm]? = some (.cells (docC m) 53 (0, 0)) ∧ x.boot = boot ∧ m.boot = boot
  bel : Below w.heap.size w wi
  boot : boot ≤ i + 1
  lbx : w.heap.size ≤ bx
  lbm : w.heap.size ≤ bm
  ne : bx ≠ bm
section
variable {w wi wj : World} {i vb p bx bm boot : Nat}
theorem KSt.mono (h : KSt w i vb p bx bm boot wi) {j : Nat} (hj : i ≤ j) : KSt w j vb p bx bm boot wi := by
  obtain ⟨⟨s, g, F, FD, l, d, r, x, m, h1, h2, h3, h4, h5, h6, h7, h8⟩, hw, hb, k1, k2, k3⟩ := h
  exact ⟨⟨s, g, F, FD, l, d, r, x, m, h1, h2.mono (by omega), Nat.le_trans h3 (Nat.mul_le_mul_left _ (by omega)), h4, h5, h6, h7, h8⟩, hw, by omega, k1, k2, k3⟩
theorem KSt.below (h : KSt w i vb p bx bm boot wi) (hb : Below wi.heap.size wi wj) : KSt w i vb p bx bm boot wj := by
  obtain ⟨⟨s, g, F, FD, l, d, r, x, m, h1, h2, h3, h4, h5, h6, h7, h8⟩, hw, hbt, k1, k2, k3⟩ := h
  exact ⟨⟨s, g, F, FD, l, d, r, x, m, h1.below hb, h2, h3, h4, (hb.block bx (lt_of_block h5)).trans h5, (hb.block bm (lt_of_block h6)).trans h6, h7, h8⟩, hw.trans (hb.mono hw.size), hbt, k1, k2, k3⟩
theorem VAt.arm {F FD : Nat → Prop} {v s g : Nat} {l : Lg} {d d' : Dsk} {r : Rec} (h : VAt wi F FD v s g p l d r) (hD : DAt wj FD p d') (hm : Mod FD wi wj) : VAt wj F FD v s g p l d' r :=
  ⟨hm.heap h.blk h.nD, ⟨hm.heap h.fs.blk h.fs.nd, h.fs.log.mod hm (fun b h1 h2 => h.fs.ap b h1 h2), hD, h.fs.ap, h.fs.ns, h.fs.nd⟩, h.rl, h.ns, h.nF, h.nD⟩
theorem VAt.mod {F FD S : Nat → Prop} {v s g : Nat} {l : Lg} {d : Dsk} {r : Rec} (h : VAt wi F FD v s g p l d r) (hm : Mod S wi wj) (hS : ∀ b, (F b ∨ FD b) ∨ b = v → ¬ S b) (hs : ¬ S s) : VAt wj F FD v s g p l d r :=
  ⟨hm.heap h.blk (hS v (.inr rfl)), h.fs.mod hm (fun b hb => hS b (.inl (.inl hb))) (fun b hb => hS b (.inl (.inr hb))) hs, h.rl, h.ns, h.nF, h.nD⟩
theorem doneR_boot (x : Rec) (o : DoV) : (doneR x o).boot = x.boot := by
  unfold doneR sesR holR
  split <;> split <;> rfl
theorem does_any {F FD : Nat → Prop} {v s g : Nat} {l : Lg} {d : Dsk} {r x m : Rec} (hV : VAt w F FD v s g p l d r) (hM : VMode i l d r x m) (hi : i ≤ 900) (hQ : d.Q.length ≤ 800000000) (hl : x.cl.length = 8) (o : DoV) (ke : Option Addr × Nat × Nat) (hwh : -9223372036854775808 ≤ o.who ∧ o.who < 9223372036854775808) (hse : o.ses < 18446744073709551616) :
    Calls Tryz.prog 16 #[.pointer (some ⟨v, 0, none⟩), .agg (docC x), .agg (enDoV (o, ke)).toArray] w fun e w' => VDoes w F FD v s g p i d x m (doneR x o) (doneW x o) e w' := by
  by_cases hk : o.kind = 0
  · exact does_ses hV hM hi hQ hl o ke hk hwh hse
  · exact does_hol hV hM hi hQ hl o ke hk hwh hse
end
/-- What a round leaves. -/
def KEnd (w : World) (i p bx bm : Nat) (vv mv : Value) (wx : World) : Prop := ∃ vb boot : Nat, vv = .pointer (some ⟨vb, 0, none⟩) ∧ mv = .int .u64 (boot : Nat) ∧ KSt w i vb p bx bm boot wx
set_option maxRecDepth 20000 in
set_option maxHeartbeats 4000000 in
theorem kept_walk (w : World) (v : Value) (ds : List DoV) (hds : DosV w v ds) : Calls Tryz.prog 5 #[v] w fun e w' => e = .returned (.bool true) ∧ Below w.heap.size w w' := by
  obtain ⟨xs, hxs, hxL, hxD⟩ := hds
  have hxl : xs.length = ds.length := by rw [← hxs]; simp
  obtain ⟨ao, ca, rfl, x1, x2, x3⟩ := hxL
  rw [hxl] at x1 x3 ⊢
  unfold maxLen at x2
  have hb63 : (ds.length : Int) ≤ 9223372036854775807 := by omega
  have hnw := newd_any w 80 (by decide) (by decide)
  rw [show ((80 : Nat) : Int) = 80 from rfl] at hnw
  have hgtD : Tryz.prog.eqGuardType Tryz.prog.depth 53 = false := by kernel_rfl
  have HXS := Lib.hid hxs
  have HXD := Lib.hid hxD
  have HXL := Lib.hid hxl
  clear hxs hxD hxl
  go_enter Tryz.func5, Tryz.ntmps5
  go_wp2_with fail
  refine hnw.mono ?_
  rintro e w1 ⟨p, FD, rfl, hD, hb1, hF⟩
  obtain ⟨l1, d1, i1, q1, z1, hop⟩ := vnew_any hD
  have HB1 := Lib.hid hb1
  have HF := Lib.hid hF
  have I1 := Lib.hid i1
  have Q1 := Lib.hid q1
  have Z1 := Lib.hid z1
  clear hnw hD hb1 hF i1 q1 z1
  go_wp2_with fail
  refine hop.mono ?_
  rintro e w2 ⟨vb, s, g, F2, FD2, rfl, hV2, hm2, hF2, hFD2, hv2⟩
  have hb2 : Below w.heap.size w w2 := HB1.out.trans (hm2.below HB1.out.size fun x hx e => absurd (HF.out x e) (Nat.not_le.2 hx))
  have hFn2 : ∀ b, (F2 b ∨ FD2 b) ∨ b = vb → w.heap.size ≤ b ∧ b < w2.heap.size := fun b hb => by
    have := HB1.out.size
    rcases hb with (hb | hb) | hb
    · have := hF2 b hb
      exact ⟨by omega, hV2.fs.log.lt b hb⟩
    · refine ⟨?_, hV2.fs.disk.lt b hb⟩
      rcases hFD2 b hb with h | h
      · exact HF.out b h
      · omega
    · exact ⟨by omega, hb ▸ lt_of_block hV2.blk⟩
  have hrc := vrecord_any hV2
  have HV2 := Lib.hid hV2
  have HB2 := Lib.hid hb2
  have HFN2 := Lib.hid hFn2
  clear hop hV2 hm2 hF2 hFD2 hv2 hb2 hFn2
  go_wp2_with fail
  refine hrc.mono ?_
  rintro e w3 ⟨rfl, hb3⟩
  have hpl := plain_any w3 Rec.zero.up I1.out.fits.len
  have HB3 := Lib.hid hb3
  clear hrc hb3
  go_wp2_with fail
  refine hpl.mono ?_
  rintro e w4 ⟨rfl, hb4⟩
  have haX := aggD (b := Rec.zero.up.boot) (s := Rec.zero.up.ses) (h := Rec.zero.up.hol)
  have honX := docF_one (b := Rec.zero.up.boot) (s := Rec.zero.up.ses) (h := Rec.zero.up.hol)
  have hb24 : Below w2.heap.size w2 w4 := HB3.out.trans (hb4.mono HB3.out.size)
  have hk5 : (w4.alloc (.cells (docC Rec.zero.up) 53)).heap[w4.heap.size]? = some (.cells (docC Rec.zero.up) 53 (0, 0)) := heap_alloc_at
  have hb25 : Below w2.heap.size w2 (w4.alloc (.cells (docC Rec.zero.up) 53)) := hb24.alloc hb24.size _
  have hz5 : (w4.alloc (.cells (docC Rec.zero.up) 53)).heap.size = w4.heap.size + 1 := by simp
  have hs24 := hb24.size
  have HB25 := Lib.hid hb25
  have HK5 := Lib.hid hk5
  have HZ5 := Lib.hid hz5
  have HS24 := Lib.hid hs24
  clear hpl hb4 hb24 hk5 hb25 hz5 hs24
  unfold docC at HK5 HB25 HZ5 ⊢
  go_upto_region 6 with (first
    | ((with_reducible refine wpList_storeA_new haX ?_ honX ?_ ?_ ?_); rfl; rfl; rfl; go_frame)
    | fail)
  generalize hbx : w4.heap.size = bx at *
  generalize w4.alloc (.cells (docF Rec.zero.up.boot Rec.zero.up.ses Rec.zero.up.hol) 53) = w5 at *
  have hS : Lies w5.drew bx 0 (docF Rec.zero.up.boot Rec.zero.up.ses Rec.zero.up.hol) ∧ w5.drew.cell? ⟨bx, 0, none⟩ = some (.int .u64 1) := ⟨lies_of (w := w5.drew) HK5.out, cell_of (w := w5.drew) HK5.out rfl⟩
  clear hbx
  refine wp_region_x (fun w' => Lies w' bx 0 (docF Rec.zero.up.boot Rec.zero.up.ses Rec.zero.up.hol) ∧ w'.cell? ⟨bx, 0, none⟩ = some (.int .u64 1)) [(0, 0), (1, 1), (2, 0), (3, 2), (4, 2), (5, 1)] (by kernel_rfl) (by kernel_rfl) (by intro d v c a w h; cases d <;> exact h) ?_
  refine x_read rfl hS (fun w' h => exec_loadA haX rfl h.1) ?_
  iterate 1 (refine x_take rfl (fun K hK => ?_); go_simp; refine hK _ ?_; clear hK K)
  refine x_read rfl hS (fun w' h => exec_load1 ⟨⟨_, Tryz.underlying30, rfl⟩⟩ rfl h.2) ?_
  refine x_show' rfl (fun K hK => ?_)
  go_simp
  have hb6 : Below w5.heap.size w5 (w5.alloc (.cells (docF 0 (fun _ => 0) (fun _ => false)) 53)).drew := ((Below.refl _ _).alloc (Nat.le_refl _) _).drew
  have hk6 : (w5.alloc (.cells (docF 0 (fun _ => 0) (fun _ => false)) 53)).drew.heap[w5.heap.size]? = some (.cells (docF 0 (fun _ => 0) (fun _ => false)) 53 (0, 0)) := heap_alloc_at (w := w5)
  generalize hw6 : (w5.alloc (.cells (docF 0 (fun _ => 0) (fun _ => false)) 53)).drew = w6 at hb6 hk6
  rw [docF_z] at hw6
  rw [hw6]
  clear hw6
  have hbx5 := lt_of_block HK5.out
  have hk56 := (hb6.block bx hbx5).trans HK5.out
  refine hK _ _ ⟨lies_of hk56, cell_of hk56 rfl⟩ ?_
  clear hK K
  generalize hbm : w5.heap.size = bm at *
  have hne : bx ≠ bm := by omega
  obtain ⟨w7, hr7, hh7, hm7⟩ := exec_storeB (ρ := fun _ => undef) (ty := 0) (pos := "") (after := #[]) (x := .tmp 0) (y := .tmp 0) haX hk6 rfl honX
  have hk57 := hm7.heap hk56 hne
  refine x_skipS rfl (hr7 _ _ _ _ _ _ _ _ rfl rfl) ⟨lies_of hk57, cell_of hk57 rfl⟩ ?_
  iterate 1 (refine x_take rfl (fun K hK => ?_); go_simp; refine hK _ ?_; clear hK K)
  refine x_nil ?_
  have hw5 : w.heap.size ≤ w5.heap.size := Nat.le_trans HB2.out.size HB25.out.size
  have hb57 : Below w5.heap.size w5 w7 := by
    rw [hbm]
    exact hb6.trans (hm7.below (by have := hb6.size; omega) fun x hx e => by omega)
  have hw2x : w2.heap.size ≤ bx := HS24.out
  have HK : Hid (KSt w 0 vb p bx bm 1 w7) := Lib.hid ⟨⟨s, g, F2, FD2, l1, d1, Rec.zero.up, Rec.zero.up, Rec.zero.up, HV2.out.below (HB25.out.trans (hb57.mono HB25.out.size)), .on I1.out rfl rfl, by rw [Z1.out]; exact Nat.zero_le _, fun b hb => ⟨(HFN2.out b hb).1, fun e => by have := (HFN2.out b hb).2; omega, fun e => by have := (HFN2.out b hb).2; omega⟩, hk57, hh7, rfl, rfl⟩,
    HB2.out.trans ((HB25.out.mono HB2.out.size).trans (hb57.mono hw5)), by decide, by have := HB2.out.size; omega, by omega, hne⟩
  clear hS hb6 hk6 hk56 hk57 hm7 hh7 hr7 hb57 hw2x hne hbm hbx5 HK5 HB25 HZ5 HS24 HV2 HB2 HFN2 HB3 I1 Q1 Z1 HF HB1 haX honX hw5
  go_wp2_with fail
  go_loopw [5, 9, 10] (fun vv mv iv wi => ∃ i : Nat, i ≤ ds.length ∧ i ≤ 25 ∧ iv = .int .i64 i ∧ KEnd w i p bx bm vv mv wi) (fun _ _ iv _ => ds.length - (intOf iv).toNat)
  case atStart => exact ⟨0, Nat.zero_le _, Nat.zero_le _, rfl, vb, 1, rfl, rfl, HK.out⟩
  case round =>
    obtain ⟨i, hi, hi25, rfl, vc, boot, rfl, rfl, hK⟩ := hrel
    clear HK
    by_cases hin : i < ds.length ∧ i < 25
    · obtain ⟨hil, hi4⟩ := hin
      have hd1 : decide (i < ds.length) = true := by simp [hil]
      have hd2 : decide ((i : Int) < 25) = true := by simp; omega
      obtain ⟨x, hx⟩ : ∃ x, xs[i]? = some x := ⟨_, List.getElem?_eq_getElem (by rw [HXL.out]; exact hil)⟩
      obtain ⟨b4, o4, rfl, hb4, hc4⟩ := x3 (by omega)
      have hlx := (hc4 i x hx).below' hK.bel hb4
      have hdx := HXD.out x (List.mem_of_getElem? hx)
      obtain ⟨⟨kd, wh, nm, se, is, kp⟩, ⟨a5, n5, c5⟩⟩ := x
      have hL6 : Lies wr b4 (o4 + i * 6) #[.int .i64 kd, .int .i64 wh, .int .i64 nm, .int .u64 (se : Nat), .bool is, .slice a5 n5 c5] := hlx
      have haO : AggT Tryz.prog 39 (#[.int .i64 kd, .int .i64 wh, .int .i64 nm, .int .u64 (se : Nat), .bool is, .slice a5 n5 c5] : Array Value).size := ⟨⟨_, Tryz.underlying39, rfl⟩, by kernel_rfl⟩
      have honO : (#[.int .i64 kd, .int .i64 wh, .int .i64 nm, .int .u64 (se : Nat), .bool is, .slice a5 n5 c5] : Array Value).all (·.oneCell') = true := by simp [Value.oneCell']
      have hb5 : Below wr.heap.size wr (wr.alloc (.cells #[.int .i64 kd, .int .i64 wh, .int .i64 nm, .int .u64 (se : Nat), .bool is, .slice a5 n5 c5] 39)) := (Below.refl _ _).alloc (Nat.le_refl _) _
      have hk5 : (wr.alloc (.cells #[.int .i64 kd, .int .i64 wh, .int .i64 nm, .int .u64 (se : Nat), .bool is, .slice a5 n5 c5] 39)).heap[wr.heap.size]? = some (.cells #[.int .i64 kd, .int .i64 wh, .int .i64 nm, .int .u64 (se : Nat), .bool is, .slice a5 n5 c5] 39 (0, 0)) := heap_alloc_at
      have hK5 := hK.below hb5
      have hnf : ∀ s g F FD l d r, VAt wr F FD vc s g p l d r → ∀ b, (F b ∨ FD b) ∨ b = vc → b < wr.heap.size := fun s g F FD l d r hV b hb => by
        rcases hb with (hb | hb) | hb
        · exact hV.fs.log.lt b hb
        · exact hV.fs.disk.lt b hb
        · exact hb ▸ lt_of_block hV.blk
      have HK := Lib.hid hK
      have HK5 := Lib.hid hK5
      have HC5 := Lib.hid hk5
      have HB5 := Lib.hid hb5
      have HDX := Lib.hid hdx
      have HB4 := Lib.hid hb4
      clear hx hc4 hlx hdx hK hb5 hk5 hK5 hb4 hnf
      go_upto_region 13 with (first
        | ((with_reducible refine wpList_loadA haO hL6 ?_ ?_); rfl; go_frame)
        | ((with_reducible refine wpList_storeA_new haO ?_ honO ?_ ?_ ?_); rfl; rfl; rfl; go_frame)
        | fail)
      generalize hcb : wr.heap.size = cb at *
      generalize wr.alloc (.cells #[.int .i64 kd, .int .i64 wh, .int .i64 nm, .int .u64 (se : Nat), .bool is, .slice a5 n5 c5] 39) = w5 at *
      have c0 : w5.cell? ⟨cb, 0, none⟩ = some (.int .i64 kd) := cell_of HC5.out rfl
      have c2 : w5.cell? ⟨cb, 2, none⟩ = some (.int .i64 nm) := cell_of HC5.out rfl
      have c5' : w5.cell? ⟨cb, 5, none⟩ = some (.slice a5 n5 c5) := cell_of HC5.out rfl
      have hLO := lies_of HC5.out
      obtain ⟨⟨s, g, F, FD, l, d, r, x, m, hV, hM, hQ, hfp, hxb, hmb, hxt, hmt⟩, hbw, hbt, hbxl, hbml, hne⟩ := HK.out
      have hlo : ∀ b, (F b ∨ FD b) ∨ b = vc → w.heap.size ≤ b ∧ b ≠ bx ∧ b ≠ bm ∧ b < cb := fun b hb => by
        obtain ⟨h1, h2, h3⟩ := hfp b hb
        refine ⟨h1, h2, h3, ?_⟩
        rcases hb with (hb | hb) | hb
        · have := hV.fs.log.lt b hb; omega
        · have := hV.fs.disk.lt b hb; omega
        · have := lt_of_block hV.blk; omega
      have hB5' : Below wr.heap.size wr w5 := by rw [hcb]; exact HB5.out
      have hV5 := hV.below hB5'
      have hx5 := (hB5'.block bx (lt_of_block hxb)).trans hxb
      have hm5 := (hB5'.block bm (lt_of_block hmb)).trans hmb
      have HSB : Hid (s ≠ bx ∧ s ≠ bm) := Lib.hid ⟨(fun e => by subst e; have h := hV.fs.blk; rw [hxb] at h; cases h), (fun e => by subst e; have h := hV.fs.blk; rw [hmb] at h; cases h)⟩
      have hbx : bx < cb := by have := lt_of_block hxb; omega
      have hbm : bm < cb := by have := lt_of_block hmb; omega
      have hwcb : w.heap.size ≤ cb := by have := hbw.size; omega
      have hb05 : Below w.heap.size w w5 := hbw.trans (hB5'.mono hbw.size)
      have hz5 := lt_of_block HC5.out
      have HV5 := Lib.hid hV5
      have HM := Lib.hid hM
      have HQ := Lib.hid hQ
      have HLO := Lib.hid hlo
      have HX5 := Lib.hid hx5
      have HM5 := Lib.hid hm5
      have HXT := Lib.hid hxt
      have HMT := Lib.hid hmt
      have HB05 := Lib.hid hb05
      clear hcb hV hM hQ hfp hxb hmb hxt hmt hlo hB5' hV5 hx5 hm5 hb05 hbw HB5 HK
      by_cases hk01 : kd = 0 ∨ kd = 1
      · have hdo : Calls Tryz.prog 16 #[.pointer (some ⟨vc, 0, none⟩), .agg (docF x.boot x.ses x.hol), .agg #[.int .i64 kd, .int .i64 wh, .int .i64 nm, .int .u64 (se : Nat), .bool is, .slice a5 n5 c5]] w5 fun e w' => VDoes w5 F FD vc s g p (3 * i + 4) d x m (doneR x ⟨kd, wh, nm, se, is, kp⟩) (doneW x ⟨kd, wh, nm, se, is, kp⟩) e w' :=
          does_any HV5.out HM.out (by omega) (by have := HQ.out; omega) HM.out.xfits.1.1.len ⟨kd, wh, nm, se, is, kp⟩ (a5, n5, c5) HDX.out.who HDX.out.ses
        have hlv := live_any HV5.out.fs.disk
        have hyt : (doneR x ⟨kd, wh, nm, se, is, kp⟩).boot = boot := (doneR_boot x _).trans HXT.out
        generalize doneR x ⟨kd, wh, nm, se, is, kp⟩ = y at hdo hyt
        generalize doneW x ⟨kd, wh, nm, se, is, kp⟩ = wt at hdo
        have HYT := Lib.hid hyt
        obtain ⟨ob, hob⟩ : ∃ ob, d.off = ob := ⟨_, rfl⟩
        rw [hob] at hlv
        have HOB := Lib.hid hob
        have haX := aggD (b := x.boot) (s := x.ses) (h := x.hol)
        have hLX : Lies w5 bx 0 (docF x.boot x.ses x.hol) := lies_of HX5.out
        have haY := aggD (b := y.boot) (s := y.ses) (h := y.hol)
        have honY := docF_one (b := y.boot) (s := y.ses) (h := y.hol)
        have hdo2 := hdo
        clear hob hyt hdo
        rcases hk01 with rfl | rfl
        · as_aux_lemma =>
          go_upto_region 17 with (first
            | (go_at_call 15; refine hlv.mono ?_; rintro e wt ⟨rfl, hw⟩; obtain rfl := hw.symm; clear hw)
            | fail)
          go_wp2_with (first
            | ((with_reducible refine wpList_loadA haX hLX ?_ ?_); rfl; go_frame)
            | ((with_reducible refine wpList_loadA haO hLO ?_ ?_); rfl; go_frame)
            | fail)
          refine hdo2.mono ?_
          rintro e w6 ⟨l', d', cd, r', F6, FD6, hD, rfl, hV6, hm6, h16, h26⟩
          have hb7 : Below w6.heap.size w6 (w6.alloc (.cells (docF y.boot y.ses y.hol) 53)) := (Below.refl _ _).alloc (Nat.le_refl _) _
          have hk7 : (w6.alloc (.cells (docF y.boot y.ses y.hol) 53)).heap[w6.heap.size]? = some (.cells (docF y.boot y.ses y.hol) 53 (0, 0)) := heap_alloc_at
          have hz56 : w5.heap.size ≤ w6.heap.size := hm6.size
          have hx6 := hm6.heap HX5.out (fun e => (HLO.out bx e).2.1 rfl)
          have hm6' := hm6.heap HM5.out (fun e => (HLO.out bm e).2.2.1 rfl)
          have hx7 := (hb7.block bx (lt_of_block hx6)).trans hx6
          have hm7 := (hb7.block bm (lt_of_block hm6')).trans hm6'
          have hV7 := hV6.below hb7
          have hb06 : Below w.heap.size w w6 := HB05.out.trans (hm6.below HB05.out.size fun x hx e => by have := (HLO.out x e).1; omega)
          have hb07 : Below w.heap.size w _ := hb06.trans (hb7.mono hb06.size)
          have hfp6 : ∀ b, (F6 b ∨ FD6 b) ∨ b = vc → w.heap.size ≤ b ∧ b ≠ bx ∧ b ≠ bm ∧ b < w6.heap.size := fun b hb => by
            have hw5 := HB05.out.size
            rcases hb with (hb | hb) | hb
            · have h3 := hV6.fs.log.lt b hb
              rcases h16 b hb with h | h
              · obtain ⟨h1, h2, h4, -⟩ := HLO.out b (.inl (.inl h)); exact ⟨h1, h2, h4, h3⟩
              · exact ⟨by omega, by omega, by omega, h3⟩
            · have h3 := hV6.fs.disk.lt b hb
              rcases h26 b hb with h | h
              · obtain ⟨h1, h2, h4, -⟩ := HLO.out b (.inl (.inr h)); exact ⟨h1, h2, h4, h3⟩
              · exact ⟨by omega, by omega, by omega, h3⟩
            · obtain ⟨h1, h2, h4, h5⟩ := HLO.out b (.inr hb); exact ⟨h1, h2, h4, by omega⟩
          unfold docC
          go_upto_region 18 with (first
            | ((with_reducible refine wpList_storeA_new haY ?_ honY ?_ ?_ ?_); rfl; rfl; rfl; go_frame)
            | fail)
          generalize hyb : w6.heap.size = yb at *
          generalize w6.alloc (.cells (docF y.boot y.ses y.hol) 53) = w7 at *
          have hlv7 := live_any hV7.fs.disk
          have hby : bx < yb ∧ bm < yb := ⟨by omega, by omega⟩
          have hq7 : d'.Q.length ≤ 20000 * (i + 1 + 1) := by have h1 := hD.1; have h2 := HQ.out; omega
          have HD := Lib.hid hD.2
          have HV7 := Lib.hid hV7
          have HX7 := Lib.hid hx7
          have HM7 := Lib.hid hm7
          have HY7 := Lib.hid hk7
          have HB07 := Lib.hid hb07
          have HFP := Lib.hid hfp6
          have HQ7 := Lib.hid hq7
          have hLY := lies_of hk7
          clear hD hV6 hm6 h16 h26 hb7 hk7 hz56 hx6 hm6' hx7 hm7 hV7 hb06 hb07 hfp6 hyb hq7 hdo2 hlv hLX hLO c0 c2 c5'
          rcases HD.out with ⟨e1, e2, rfl, hM7'⟩ | ⟨e1, e2, hM7'⟩ | ⟨e1, e2, hM7'⟩
          · rw [HOB.out] at e1
            subst e1
            rw [e2, Bool.not_false] at hlv7
            have HM7' := Lib.hid hM7'
            clear e2 hM7' HD
            go_upto_region 21 with (first
              | (go_at_call 15; refine hlv7.mono ?_; rintro e wt ⟨rfl, hw⟩; obtain rfl := hw.symm; clear hw)
              | fail)
            refine wp_region_x (fun w' => Lies w' yb 0 (docF y.boot y.ses y.hol)) [(0, 0), (1, 0), (2, 2), (3, 3)] (by kernel_rfl) (by kernel_rfl) (by intro d v c a w h; cases d <;> exact h) ?_
            have hS : Lies w7.drew yb 0 (docF y.boot y.ses y.hol) := hLY
            refine x_read rfl hS (fun w' h => exec_loadA haY rfl h) ?_
            refine x_read rfl hS (fun w' h => exec_loadA haY rfl h) ?_
            obtain ⟨w8, hr8, hh8, hm8⟩ := exec_storeB (w := w7.drew) (ρ := fun _ => undef) (ty := 0) (pos := "") (after := #[]) (x := .tmp 0) (y := .tmp 0) haY HX7.out rfl honY
            have hy8 := hm8.heap (show w7.drew.heap[yb]? = _ from HY7.out) (by omega)
            refine x_skipS rfl (hr8 _ _ _ _ _ _ _ _ rfl rfl) (lies_of hy8) ?_
            obtain ⟨w9, hr9, hh9, hm9⟩ := exec_storeB (ρ := fun _ => undef) (ty := 0) (pos := "") (after := #[]) (x := .tmp 0) (y := .tmp 0) haY (hm8.heap (show w7.drew.heap[bm]? = _ from HM7.out) (fun e => hne e.symm)) rfl honY
            refine x_skip rfl (hr9 _ _ _ _ _ _ _ _ rfl rfl) ?_
            refine x_nil ?_
            have hx9 := hm9.heap hh8 hne
            have hm79 : Mod (fun b => b = bx ∨ b = bm) w7.drew w9 := hm8.trans hm9 (fun x h => .inl h) (fun x _ h => .inr h)
            have hw7 : w.heap.size ≤ w7.heap.size := HB07.out.size
            have hV9 : VAt w9 F6 FD6 vc s g p l' d' r' := (HV7.out.below (Below.refl _ _).drew).mod hm79 (fun b hb => by obtain ⟨-, h2, h3, -⟩ := HFP.out b hb; rintro (h | h); exact h2 h; exact h3 h) (fun e => by
              have h0 := HSB.out
              have e : s = bx ∨ s = bm := e
              rcases e with e | e
              · exact h0.1 e
              · exact h0.2 e)
            have HK9 : Hid (KSt w (i + 1) vc p bx bm boot w9) := Lib.hid ⟨⟨s, g, F6, FD6, l', d', r', y, y, hV9, HM7'.out.mono (by omega), HQ7.out, fun b hb => ⟨(HFP.out b hb).1, (HFP.out b hb).2.1, (HFP.out b hb).2.2.1⟩, hx9, hh9, HYT.out, HYT.out⟩,
              HB07.out.trans ((Below.refl _ _).drew.trans (hm79.below (show w.heap.size ≤ w7.heap.size from hw7) fun x hx e => by rcases e with e | e <;> omega)), by omega, hbxl, hbml, hne⟩
            clear hS hy8 hh8 hm8 hr8 hh9 hm9 hr9 hx9 hm79 hw7 hV9 hLY hlv7 HV5 HM HQ HX5 HM5 HOB HV7 HX7 HM7 HY7 HB07 HFP HQ7 HM7' hby haX haY honY haO honO HC5 HB05
            go_upto_region 39 with fail
            obtain ⟨⟨s9, g9, F9, FD9, l9, d9, r9, x9, m9, hV9, hM9, -, -, hxb9, -, -, -⟩, -, -, -, -, -⟩ := HK9.out
            rcases hM9.offs with ⟨ho, hI, rfl, -⟩ | ⟨ho, -⟩
            · have hVd := hV9.below (Below.refl _ _).drew
              have hlv9 := live_any hVd.fs.disk
              have hrc9 := vrecord_any hVd
              have hpl9 := fun w' => plain_any w' x9 hI.fits.len
              rw [ho, Bool.not_false] at hlv9
              have hbx9 : bx < w9.drew.heap.size := lt_of_block (w := w9.drew) hxb9
              have hS : Lies w9.drew bx 0 (docF x9.boot x9.ses x9.hol) := lies_of (w := w9.drew) hxb9
              have haZ := aggD (b := x9.boot) (s := x9.ses) (h := x9.hol)
              have heqZ : ∀ w, (Op.equalIn 10000 53 (.agg (docF x9.boot x9.ses x9.hol)) (.agg (docF x9.boot x9.ses x9.hol))).run Tryz.prog w = .ok true w := fun w => by rw [eqDoc, eqDocB_refl]
              unfold docC at hpl9
              clear hV9 hM9 hxb9 ho hVd hI
              refine wp_region_g (fun w' => Lies w' bx 0 (docF x9.boot x9.ses x9.hol)) [(0, 1), (1, 2), (2, 1), (3, 1), (6, 0), (4, 2), (5, 2), (7, 1), (8, 1)] (by kernel_rfl) (by kernel_rfl) (by intro d v c a w h; cases d <;> exact h) ?_
              iterate 1 (refine g_take rfl rfl (fun K hK => ?_); go_simp; refine hK _ ?_; clear hK K)
              refine g_show' rfl rfl (fun K hK => ?_)
              go_simp
              refine hlv9.mono ?_
              rintro e wt ⟨rfl, hw⟩
              obtain rfl := hw.symm
              clear hw
              refine hK _ _ hS ?_
              clear hK K
              iterate 2 (refine g_take rfl rfl (fun K hK => ?_); go_simp; refine hK _ ?_; clear hK K)
              refine g_read rfl rfl hS (fun w' h => exec_loadA haZ rfl h) ?_
              refine g_show' rfl rfl (fun K hK => ?_)
              go_simp
              refine hrc9.mono ?_
              rintro e w10 ⟨rfl, hb10⟩
              have hS10 : Lies w10 bx 0 (docF x9.boot x9.ses x9.hol) := fun j hj => (hb10.cell (p := ⟨bx, _, none⟩) hbx9).trans (hS j hj)
              refine hK _ _ hS10 ?_
              clear hK K
              refine g_show' rfl rfl (fun K hK => ?_)
              go_simp
              refine (hpl9 _).mono ?_
              rintro e w11 ⟨rfl, hb11⟩
              have hS11 : Lies w11 bx 0 (docF x9.boot x9.ses x9.hol) := fun j hj => (hb11.cell (p := ⟨bx, _, none⟩) (Nat.lt_of_lt_of_le hbx9 hb10.size)).trans (hS10 j hj)
              refine hK _ _ hS11 ?_
              clear hK K
              refine g_take rfl rfl (fun K hK => ⟨_, fun w' => exec_neqS hgtD heqZ rfl rfl w', ?_⟩)
              go_simp
              refine hK _ ?_
              clear hK K
              iterate 1 (refine g_take rfl rfl (fun K hK => ?_); go_simp; refine hK _ ?_; clear hK K)
              refine g_nil ?_
              have HK11 := Lib.hid (HK9.out.below ((Below.refl _ _).drew.trans ((hb10.mono (Nat.le_refl _)).trans (hb11.mono hb10.size))))
              clear hS hS10 hS11 hb10 hb11 hlv9 hrc9 hpl9 hbx9 haZ heqZ HK9
              go_wp2
              go_roundw
              case rel => exact ⟨i + 1, by omega, by omega, by go_num, vc, boot, rfl, rfl, HK11.out⟩
              case measure => simp [intOf]; omega
            · have hVd := hV9.below (Below.refl _ _).drew
              have hlv9 := live_any hVd.fs.disk
              rw [ho, Bool.not_true] at hlv9
              have hS : Lies w9.drew bx 0 (docF x9.boot x9.ses x9.hol) := lies_of (w := w9.drew) hxb9
              clear hV9 hM9 hxb9 ho hVd
              refine wp_region_g (fun w' => Lies w' bx 0 (docF x9.boot x9.ses x9.hol)) [(0, 1), (1, 2), (2, 1), (3, 1), (6, 0), (4, 2), (5, 2), (7, 1), (8, 1)] (by kernel_rfl) (by kernel_rfl) (by intro d v c a w h; cases d <;> exact h) ?_
              iterate 1 (refine g_take rfl rfl (fun K hK => ?_); go_simp; refine hK _ ?_; clear hK K)
              refine g_show' rfl rfl (fun K hK => ?_)
              go_simp
              refine hlv9.mono ?_
              rintro e wt ⟨rfl, hw⟩
              obtain rfl := hw.symm
              clear hw
              refine hK _ _ hS ?_
              clear hK K
              iterate 1 (refine g_take rfl rfl (fun K hK => ?_); go_simp; refine hK _ ?_; clear hK K)
              iterate 5 (refine g_offK rfl rfl (fun _ => hS) (fun K hK => ?_); go_simp; refine hK _ ?_; clear hK K)
              iterate 1 (refine g_take rfl rfl (fun K hK => ?_); go_simp; refine hK _ ?_; clear hK K)
              refine g_nil ?_
              have HK11 := Lib.hid (HK9.out.below (Below.refl _ _).drew)
              clear hS hlv9 HK9
              go_wp2
              go_roundw
              case rel => exact ⟨i + 1, by omega, by omega, by go_num, vc, boot, rfl, rfl, HK11.out⟩
              case measure => simp [intOf]; omega
          · rw [HOB.out] at e1
            subst e1
            rw [e2, Bool.not_true] at hlv7
            have HM7' := Lib.hid hM7'
            clear e2 hM7' HD
            have hmb7 := HM7.out
            go_upto_region 39 with (first
              | (go_at_call 15; refine hlv7.mono ?_; rintro e wt ⟨rfl, hw⟩; obtain rfl := hw.symm; clear hw)
              | ((with_reducible refine wpList_loadA haY hLY ?_ ?_); rfl; go_frame)
              | ((with_reducible refine wpList_storeB haY ?_ ?_ hmb7 rfl honY ?_); rfl; rfl; (intro w9 hh9 hm9; have HH9 := Lib.hid hh9; have HM9 := Lib.hid hm9; clear hh9 hm9); go_frame)
              | fail)
            have hV9 : VAt w9 F6 FD6 vc s g p l' d' r' := HV7.out.mod HM9.out (fun b hb e => (HFP.out b hb).2.2.1 e) (fun e => HSB.out.2 e)
            have hw7 : w.heap.size ≤ w7.heap.size := HB07.out.size
            have HK9 : Hid (KSt w (i + 1) vc p bx bm boot w9) := Lib.hid ⟨⟨s, g, F6, FD6, l', d', r', x, y, hV9, HM7'.out.mono (by omega), HQ7.out, fun b hb => ⟨(HFP.out b hb).1, (HFP.out b hb).2.1, (HFP.out b hb).2.2.1⟩, HM9.out.heap HX7.out hne, HH9.out, HXT.out, HYT.out⟩,
              HB07.out.trans (HM9.out.below (show w.heap.size ≤ w7.heap.size from hw7) fun x hx e => by omega), by omega, hbxl, hbml, hne⟩
            clear hw7 hV9 hLY hlv7 HV5 HM HQ HX5 HM5 HOB HV7 HX7 HM7 HY7 HB07 HFP HQ7 HM7' HH9 HM9 hmb7 hby haX haY honY haO honO HC5 HB05
            go_upto_region 39 with fail
            obtain ⟨⟨s9, g9, F9, FD9, l9, d9, r9, x9, m9, hV9, hM9, -, -, hxb9, -, -, -⟩, -, -, -, -, -⟩ := HK9.out
            rcases hM9.offs with ⟨ho, hI, rfl, -⟩ | ⟨ho, -⟩
            · have hVd := hV9.below (Below.refl _ _).drew
              have hlv9 := live_any hVd.fs.disk
              have hrc9 := vrecord_any hVd
              have hpl9 := fun w' => plain_any w' x9 hI.fits.len
              rw [ho, Bool.not_false] at hlv9
              have hbx9 : bx < w9.drew.heap.size := lt_of_block (w := w9.drew) hxb9
              have hS : Lies w9.drew bx 0 (docF x9.boot x9.ses x9.hol) := lies_of (w := w9.drew) hxb9
              have haZ := aggD (b := x9.boot) (s := x9.ses) (h := x9.hol)
              have heqZ : ∀ w, (Op.equalIn 10000 53 (.agg (docF x9.boot x9.ses x9.hol)) (.agg (docF x9.boot x9.ses x9.hol))).run Tryz.prog w = .ok true w := fun w => by rw [eqDoc, eqDocB_refl]
              unfold docC at hpl9
              clear hV9 hM9 hxb9 ho hVd hI
              refine wp_region_g (fun w' => Lies w' bx 0 (docF x9.boot x9.ses x9.hol)) [(0, 1), (1, 2), (2, 1), (3, 1), (6, 0), (4, 2), (5, 2), (7, 1), (8, 1)] (by kernel_rfl) (by kernel_rfl) (by intro d v c a w h; cases d <;> exact h) ?_
              iterate 1 (refine g_take rfl rfl (fun K hK => ?_); go_simp; refine hK _ ?_; clear hK K)
              refine g_show' rfl rfl (fun K hK => ?_)
              go_simp
              refine hlv9.mono ?_
              rintro e wt ⟨rfl, hw⟩
              obtain rfl := hw.symm
              clear hw
              refine hK _ _ hS ?_
              clear hK K
              iterate 2 (refine g_take rfl rfl (fun K hK => ?_); go_simp; refine hK _ ?_; clear hK K)
              refine g_read rfl rfl hS (fun w' h => exec_loadA haZ rfl h) ?_
              refine g_show' rfl rfl (fun K hK => ?_)
              go_simp
              refine hrc9.mono ?_
              rintro e w10 ⟨rfl, hb10⟩
              have hS10 : Lies w10 bx 0 (docF x9.boot x9.ses x9.hol) := fun j hj => (hb10.cell (p := ⟨bx, _, none⟩) hbx9).trans (hS j hj)
              refine hK _ _ hS10 ?_
              clear hK K
              refine g_show' rfl rfl (fun K hK => ?_)
              go_simp
              refine (hpl9 _).mono ?_
              rintro e w11 ⟨rfl, hb11⟩
              have hS11 : Lies w11 bx 0 (docF x9.boot x9.ses x9.hol) := fun j hj => (hb11.cell (p := ⟨bx, _, none⟩) (Nat.lt_of_lt_of_le hbx9 hb10.size)).trans (hS10 j hj)
              refine hK _ _ hS11 ?_
              clear hK K
              refine g_take rfl rfl (fun K hK => ⟨_, fun w' => exec_neqS hgtD heqZ rfl rfl w', ?_⟩)
              go_simp
              refine hK _ ?_
              clear hK K
              iterate 1 (refine g_take rfl rfl (fun K hK => ?_); go_simp; refine hK _ ?_; clear hK K)
              refine g_nil ?_
              have HK11 := Lib.hid (HK9.out.below ((Below.refl _ _).drew.trans ((hb10.mono (Nat.le_refl _)).trans (hb11.mono hb10.size))))
              clear hS hS10 hS11 hb10 hb11 hlv9 hrc9 hpl9 hbx9 haZ heqZ HK9
              go_wp2
              go_roundw
              case rel => exact ⟨i + 1, by omega, by omega, by go_num, vc, boot, rfl, rfl, HK11.out⟩
              case measure => simp [intOf]; omega
            · have hVd := hV9.below (Below.refl _ _).drew
              have hlv9 := live_any hVd.fs.disk
              rw [ho, Bool.not_true] at hlv9
              have hS : Lies w9.drew bx 0 (docF x9.boot x9.ses x9.hol) := lies_of (w := w9.drew) hxb9
              clear hV9 hM9 hxb9 ho hVd
              refine wp_region_g (fun w' => Lies w' bx 0 (docF x9.boot x9.ses x9.hol)) [(0, 1), (1, 2), (2, 1), (3, 1), (6, 0), (4, 2), (5, 2), (7, 1), (8, 1)] (by kernel_rfl) (by kernel_rfl) (by intro d v c a w h; cases d <;> exact h) ?_
              iterate 1 (refine g_take rfl rfl (fun K hK => ?_); go_simp; refine hK _ ?_; clear hK K)
              refine g_show' rfl rfl (fun K hK => ?_)
              go_simp
              refine hlv9.mono ?_
              rintro e wt ⟨rfl, hw⟩
              obtain rfl := hw.symm
              clear hw
              refine hK _ _ hS ?_
              clear hK K
              iterate 1 (refine g_take rfl rfl (fun K hK => ?_); go_simp; refine hK _ ?_; clear hK K)
              iterate 5 (refine g_offK rfl rfl (fun _ => hS) (fun K hK => ?_); go_simp; refine hK _ ?_; clear hK K)
              iterate 1 (refine g_take rfl rfl (fun K hK => ?_); go_simp; refine hK _ ?_; clear hK K)
              refine g_nil ?_
              have HK11 := Lib.hid (HK9.out.below (Below.refl _ _).drew)
              clear hS hlv9 HK9
              go_wp2
              go_roundw
              case rel => exact ⟨i + 1, by omega, by omega, by go_num, vc, boot, rfl, rfl, HK11.out⟩
              case measure => simp [intOf]; omega
          · rw [HOB.out] at e1
            subst e1
            rw [e2, Bool.not_true] at hlv7
            have HM7' := Lib.hid hM7'
            have HK9 : Hid (KSt w (i + 1) vc p bx bm boot w7) := Lib.hid ⟨⟨s, g, F6, FD6, l', d', r', x, m, HV7.out, HM7'.out.mono (by omega), HQ7.out, fun b hb => ⟨(HFP.out b hb).1, (HFP.out b hb).2.1, (HFP.out b hb).2.2.1⟩, HX7.out, HM7.out, HXT.out, HMT.out⟩,
              HB07.out, by omega, hbxl, hbml, hne⟩
            clear e2 hM7' HD hLY hlv7 HV5 HM HQ HX5 HM5 HOB HV7 HX7 HM7 HY7 HB07 HFP HQ7 HM7' hby haX haY honY haO honO HC5 HB05
            go_upto_region 39 with fail
            obtain ⟨⟨s9, g9, F9, FD9, l9, d9, r9, x9, m9, hV9, hM9, -, -, hxb9, -, -, -⟩, -, -, -, -, -⟩ := HK9.out
            rcases hM9.offs with ⟨ho, hI, rfl, -⟩ | ⟨ho, -⟩
            · have hVd := hV9.below (Below.refl _ _).drew
              have hlv9 := live_any hVd.fs.disk
              have hrc9 := vrecord_any hVd
              have hpl9 := fun w' => plain_any w' x9 hI.fits.len
              rw [ho, Bool.not_false] at hlv9
              have hbx9 : bx < w7.drew.heap.size := lt_of_block (w := w7.drew) hxb9
              have hS : Lies w7.drew bx 0 (docF x9.boot x9.ses x9.hol) := lies_of (w := w7.drew) hxb9
              have haZ := aggD (b := x9.boot) (s := x9.ses) (h := x9.hol)
              have heqZ : ∀ w, (Op.equalIn 10000 53 (.agg (docF x9.boot x9.ses x9.hol)) (.agg (docF x9.boot x9.ses x9.hol))).run Tryz.prog w = .ok true w := fun w => by rw [eqDoc, eqDocB_refl]
              unfold docC at hpl9
              clear hV9 hM9 hxb9 ho hVd hI
              refine wp_region_g (fun w' => Lies w' bx 0 (docF x9.boot x9.ses x9.hol)) [(0, 1), (1, 2), (2, 1), (3, 1), (6, 0), (4, 2), (5, 2), (7, 1), (8, 1)] (by kernel_rfl) (by kernel_rfl) (by intro d v c a w h; cases d <;> exact h) ?_
              iterate 1 (refine g_take rfl rfl (fun K hK => ?_); go_simp; refine hK _ ?_; clear hK K)
              refine g_show' rfl rfl (fun K hK => ?_)
              go_simp
              refine hlv9.mono ?_
              rintro e wt ⟨rfl, hw⟩
              obtain rfl := hw.symm
              clear hw
              refine hK _ _ hS ?_
              clear hK K
              iterate 2 (refine g_take rfl rfl (fun K hK => ?_); go_simp; refine hK _ ?_; clear hK K)
              refine g_read rfl rfl hS (fun w' h => exec_loadA haZ rfl h) ?_
              refine g_show' rfl rfl (fun K hK => ?_)
              go_simp
              refine hrc9.mono ?_
              rintro e w10 ⟨rfl, hb10⟩
              have hS10 : Lies w10 bx 0 (docF x9.boot x9.ses x9.hol) := fun j hj => (hb10.cell (p := ⟨bx, _, none⟩) hbx9).trans (hS j hj)
              refine hK _ _ hS10 ?_
              clear hK K
              refine g_show' rfl rfl (fun K hK => ?_)
              go_simp
              refine (hpl9 _).mono ?_
              rintro e w11 ⟨rfl, hb11⟩
              have hS11 : Lies w11 bx 0 (docF x9.boot x9.ses x9.hol) := fun j hj => (hb11.cell (p := ⟨bx, _, none⟩) (Nat.lt_of_lt_of_le hbx9 hb10.size)).trans (hS10 j hj)
              refine hK _ _ hS11 ?_
              clear hK K
              refine g_take rfl rfl (fun K hK => ⟨_, fun w' => exec_neqS hgtD heqZ rfl rfl w', ?_⟩)
              go_simp
              refine hK _ ?_
              clear hK K
              iterate 1 (refine g_take rfl rfl (fun K hK => ?_); go_simp; refine hK _ ?_; clear hK K)
              refine g_nil ?_
              have HK11 := Lib.hid (HK9.out.below ((Below.refl _ _).drew.trans ((hb10.mono (Nat.le_refl _)).trans (hb11.mono hb10.size))))
              clear hS hS10 hS11 hb10 hb11 hlv9 hrc9 hpl9 hbx9 haZ heqZ HK9
              go_wp2
              go_roundw
              case rel => exact ⟨i + 1, by omega, by omega, by go_num, vc, boot, rfl, rfl, HK11.out⟩
              case measure => simp [intOf]; omega
            · have hVd := hV9.below (Below.refl _ _).drew
              have hlv9 := live_any hVd.fs.disk
              rw [ho, Bool.not_true] at hlv9
              have hS : Lies w7.drew bx 0 (docF x9.boot x9.ses x9.hol) := lies_of (w := w7.drew) hxb9
              clear hV9 hM9 hxb9 ho hVd
              refine wp_region_g (fun w' => Lies w' bx 0 (docF x9.boot x9.ses x9.hol)) [(0, 1), (1, 2), (2, 1), (3, 1), (6, 0), (4, 2), (5, 2), (7, 1), (8, 1)] (by kernel_rfl) (by kernel_rfl) (by intro d v c a w h; cases d <;> exact h) ?_
              iterate 1 (refine g_take rfl rfl (fun K hK => ?_); go_simp; refine hK _ ?_; clear hK K)
              refine g_show' rfl rfl (fun K hK => ?_)
              go_simp
              refine hlv9.mono ?_
              rintro e wt ⟨rfl, hw⟩
              obtain rfl := hw.symm
              clear hw
              refine hK _ _ hS ?_
              clear hK K
              iterate 1 (refine g_take rfl rfl (fun K hK => ?_); go_simp; refine hK _ ?_; clear hK K)
              iterate 5 (refine g_offK rfl rfl (fun _ => hS) (fun K hK => ?_); go_simp; refine hK _ ?_; clear hK K)
              iterate 1 (refine g_take rfl rfl (fun K hK => ?_); go_simp; refine hK _ ?_; clear hK K)
              refine g_nil ?_
              have HK11 := Lib.hid (HK9.out.below (Below.refl _ _).drew)
              clear hS hlv9 HK9
              go_wp2
              go_roundw
              case rel => exact ⟨i + 1, by omega, by omega, by go_num, vc, boot, rfl, rfl, HK11.out⟩
              case measure => simp [intOf]; omega
        · as_aux_lemma =>
          go_upto_region 17 with (first
            | (go_at_call 15; refine hlv.mono ?_; rintro e wt ⟨rfl, hw⟩; obtain rfl := hw.symm; clear hw)
            | fail)
          go_wp2_with (first
            | ((with_reducible refine wpList_loadA haX hLX ?_ ?_); rfl; go_frame)
            | ((with_reducible refine wpList_loadA haO hLO ?_ ?_); rfl; go_frame)
            | fail)
          refine hdo2.mono ?_
          rintro e w6 ⟨l', d', cd, r', F6, FD6, hD, rfl, hV6, hm6, h16, h26⟩
          have hb7 : Below w6.heap.size w6 (w6.alloc (.cells (docF y.boot y.ses y.hol) 53)) := (Below.refl _ _).alloc (Nat.le_refl _) _
          have hk7 : (w6.alloc (.cells (docF y.boot y.ses y.hol) 53)).heap[w6.heap.size]? = some (.cells (docF y.boot y.ses y.hol) 53 (0, 0)) := heap_alloc_at
          have hz56 : w5.heap.size ≤ w6.heap.size := hm6.size
          have hx6 := hm6.heap HX5.out (fun e => (HLO.out bx e).2.1 rfl)
          have hm6' := hm6.heap HM5.out (fun e => (HLO.out bm e).2.2.1 rfl)
          have hx7 := (hb7.block bx (lt_of_block hx6)).trans hx6
          have hm7 := (hb7.block bm (lt_of_block hm6')).trans hm6'
          have hV7 := hV6.below hb7
          have hb06 : Below w.heap.size w w6 := HB05.out.trans (hm6.below HB05.out.size fun x hx e => by have := (HLO.out x e).1; omega)
          have hb07 : Below w.heap.size w _ := hb06.trans (hb7.mono hb06.size)
          have hfp6 : ∀ b, (F6 b ∨ FD6 b) ∨ b = vc → w.heap.size ≤ b ∧ b ≠ bx ∧ b ≠ bm ∧ b < w6.heap.size := fun b hb => by
            have hw5 := HB05.out.size
            rcases hb with (hb | hb) | hb
            · have h3 := hV6.fs.log.lt b hb
              rcases h16 b hb with h | h
              · obtain ⟨h1, h2, h4, -⟩ := HLO.out b (.inl (.inl h)); exact ⟨h1, h2, h4, h3⟩
              · exact ⟨by omega, by omega, by omega, h3⟩
            · have h3 := hV6.fs.disk.lt b hb
              rcases h26 b hb with h | h
              · obtain ⟨h1, h2, h4, -⟩ := HLO.out b (.inl (.inr h)); exact ⟨h1, h2, h4, h3⟩
              · exact ⟨by omega, by omega, by omega, h3⟩
            · obtain ⟨h1, h2, h4, h5⟩ := HLO.out b (.inr hb); exact ⟨h1, h2, h4, by omega⟩
          unfold docC
          go_upto_region 18 with (first
            | ((with_reducible refine wpList_storeA_new haY ?_ honY ?_ ?_ ?_); rfl; rfl; rfl; go_frame)
            | fail)
          generalize hyb : w6.heap.size = yb at *
          generalize w6.alloc (.cells (docF y.boot y.ses y.hol) 53) = w7 at *
          have hlv7 := live_any hV7.fs.disk
          have hby : bx < yb ∧ bm < yb := ⟨by omega, by omega⟩
          have hq7 : d'.Q.length ≤ 20000 * (i + 1 + 1) := by have h1 := hD.1; have h2 := HQ.out; omega
          have HD := Lib.hid hD.2
          have HV7 := Lib.hid hV7
          have HX7 := Lib.hid hx7
          have HM7 := Lib.hid hm7
          have HY7 := Lib.hid hk7
          have HB07 := Lib.hid hb07
          have HFP := Lib.hid hfp6
          have HQ7 := Lib.hid hq7
          have hLY := lies_of hk7
          clear hD hV6 hm6 h16 h26 hb7 hk7 hz56 hx6 hm6' hx7 hm7 hV7 hb06 hb07 hfp6 hyb hq7 hdo2 hlv hLX hLO c0 c2 c5'
          rcases HD.out with ⟨e1, e2, rfl, hM7'⟩ | ⟨e1, e2, hM7'⟩ | ⟨e1, e2, hM7'⟩
          · rw [HOB.out] at e1
            subst e1
            rw [e2, Bool.not_false] at hlv7
            have HM7' := Lib.hid hM7'
            clear e2 hM7' HD
            go_upto_region 21 with (first
              | (go_at_call 15; refine hlv7.mono ?_; rintro e wt ⟨rfl, hw⟩; obtain rfl := hw.symm; clear hw)
              | fail)
            refine wp_region_x (fun w' => Lies w' yb 0 (docF y.boot y.ses y.hol)) [(0, 0), (1, 0), (2, 2), (3, 3)] (by kernel_rfl) (by kernel_rfl) (by intro d v c a w h; cases d <;> exact h) ?_
            have hS : Lies w7.drew yb 0 (docF y.boot y.ses y.hol) := hLY
            refine x_read rfl hS (fun w' h => exec_loadA haY rfl h) ?_
            refine x_read rfl hS (fun w' h => exec_loadA haY rfl h) ?_
            obtain ⟨w8, hr8, hh8, hm8⟩ := exec_storeB (w := w7.drew) (ρ := fun _ => undef) (ty := 0) (pos := "") (after := #[]) (x := .tmp 0) (y := .tmp 0) haY HX7.out rfl honY
            have hy8 := hm8.heap (show w7.drew.heap[yb]? = _ from HY7.out) (by omega)
            refine x_skipS rfl (hr8 _ _ _ _ _ _ _ _ rfl rfl) (lies_of hy8) ?_
            obtain ⟨w9, hr9, hh9, hm9⟩ := exec_storeB (ρ := fun _ => undef) (ty := 0) (pos := "") (after := #[]) (x := .tmp 0) (y := .tmp 0) haY (hm8.heap (show w7.drew.heap[bm]? = _ from HM7.out) (fun e => hne e.symm)) rfl honY
            refine x_skip rfl (hr9 _ _ _ _ _ _ _ _ rfl rfl) ?_
            refine x_nil ?_
            have hx9 := hm9.heap hh8 hne
            have hm79 : Mod (fun b => b = bx ∨ b = bm) w7.drew w9 := hm8.trans hm9 (fun x h => .inl h) (fun x _ h => .inr h)
            have hw7 : w.heap.size ≤ w7.heap.size := HB07.out.size
            have hV9 : VAt w9 F6 FD6 vc s g p l' d' r' := (HV7.out.below (Below.refl _ _).drew).mod hm79 (fun b hb => by obtain ⟨-, h2, h3, -⟩ := HFP.out b hb; rintro (h | h); exact h2 h; exact h3 h) (fun e => by
              have h0 := HSB.out
              have e : s = bx ∨ s = bm := e
              rcases e with e | e
              · exact h0.1 e
              · exact h0.2 e)
            have HK9 : Hid (KSt w (i + 1) vc p bx bm boot w9) := Lib.hid ⟨⟨s, g, F6, FD6, l', d', r', y, y, hV9, HM7'.out.mono (by omega), HQ7.out, fun b hb => ⟨(HFP.out b hb).1, (HFP.out b hb).2.1, (HFP.out b hb).2.2.1⟩, hx9, hh9, HYT.out, HYT.out⟩,
              HB07.out.trans ((Below.refl _ _).drew.trans (hm79.below (show w.heap.size ≤ w7.heap.size from hw7) fun x hx e => by rcases e with e | e <;> omega)), by omega, hbxl, hbml, hne⟩
            clear hS hy8 hh8 hm8 hr8 hh9 hm9 hr9 hx9 hm79 hw7 hV9 hLY hlv7 HV5 HM HQ HX5 HM5 HOB HV7 HX7 HM7 HY7 HB07 HFP HQ7 HM7' hby haX haY honY haO honO HC5 HB05
            go_upto_region 39 with fail
            obtain ⟨⟨s9, g9, F9, FD9, l9, d9, r9, x9, m9, hV9, hM9, -, -, hxb9, -, -, -⟩, -, -, -, -, -⟩ := HK9.out
            rcases hM9.offs with ⟨ho, hI, rfl, -⟩ | ⟨ho, -⟩
            · have hVd := hV9.below (Below.refl _ _).drew
              have hlv9 := live_any hVd.fs.disk
              have hrc9 := vrecord_any hVd
              have hpl9 := fun w' => plain_any w' x9 hI.fits.len
              rw [ho, Bool.not_false] at hlv9
              have hbx9 : bx < w9.drew.heap.size := lt_of_block (w := w9.drew) hxb9
              have hS : Lies w9.drew bx 0 (docF x9.boot x9.ses x9.hol) := lies_of (w := w9.drew) hxb9
              have haZ := aggD (b := x9.boot) (s := x9.ses) (h := x9.hol)
              have heqZ : ∀ w, (Op.equalIn 10000 53 (.agg (docF x9.boot x9.ses x9.hol)) (.agg (docF x9.boot x9.ses x9.hol))).run Tryz.prog w = .ok true w := fun w => by rw [eqDoc, eqDocB_refl]
              unfold docC at hpl9
              clear hV9 hM9 hxb9 ho hVd hI
              refine wp_region_g (fun w' => Lies w' bx 0 (docF x9.boot x9.ses x9.hol)) [(0, 1), (1, 2), (2, 1), (3, 1), (6, 0), (4, 2), (5, 2), (7, 1), (8, 1)] (by kernel_rfl) (by kernel_rfl) (by intro d v c a w h; cases d <;> exact h) ?_
              iterate 1 (refine g_take rfl rfl (fun K hK => ?_); go_simp; refine hK _ ?_; clear hK K)
              refine g_show' rfl rfl (fun K hK => ?_)
              go_simp
              refine hlv9.mono ?_
              rintro e wt ⟨rfl, hw⟩
              obtain rfl := hw.symm
              clear hw
              refine hK _ _ hS ?_
              clear hK K
              iterate 2 (refine g_take rfl rfl (fun K hK => ?_); go_simp; refine hK _ ?_; clear hK K)
              refine g_read rfl rfl hS (fun w' h => exec_loadA haZ rfl h) ?_
              refine g_show' rfl rfl (fun K hK => ?_)
              go_simp
              refine hrc9.mono ?_
              rintro e w10 ⟨rfl, hb10⟩
              have hS10 : Lies w10 bx 0 (docF x9.boot x9.ses x9.hol) := fun j hj => (hb10.cell (p := ⟨bx, _, none⟩) hbx9).trans (hS j hj)
              refine hK _ _ hS10 ?_
              clear hK K
              refine g_show' rfl rfl (fun K hK => ?_)
              go_simp
              refine (hpl9 _).mono ?_
              rintro e w11 ⟨rfl, hb11⟩
              have hS11 : Lies w11 bx 0 (docF x9.boot x9.ses x9.hol) := fun j hj => (hb11.cell (p := ⟨bx, _, none⟩) (Nat.lt_of_lt_of_le hbx9 hb10.size)).trans (hS10 j hj)
              refine hK _ _ hS11 ?_
              clear hK K
              refine g_take rfl rfl (fun K hK => ⟨_, fun w' => exec_neqS hgtD heqZ rfl rfl w', ?_⟩)
              go_simp
              refine hK _ ?_
              clear hK K
              iterate 1 (refine g_take rfl rfl (fun K hK => ?_); go_simp; refine hK _ ?_; clear hK K)
              refine g_nil ?_
              have HK11 := Lib.hid (HK9.out.below ((Below.refl _ _).drew.trans ((hb10.mono (Nat.le_refl _)).trans (hb11.mono hb10.size))))
              clear hS hS10 hS11 hb10 hb11 hlv9 hrc9 hpl9 hbx9 haZ heqZ HK9
              go_wp2
              go_roundw
              case rel => exact ⟨i + 1, by omega, by omega, by go_num, vc, boot, rfl, rfl, HK11.out⟩
              case measure => simp [intOf]; omega
            · have hVd := hV9.below (Below.refl _ _).drew
              have hlv9 := live_any hVd.fs.disk
              rw [ho, Bool.not_true] at hlv9
              have hS : Lies w9.drew bx 0 (docF x9.boot x9.ses x9.hol) := lies_of (w := w9.drew) hxb9
              clear hV9 hM9 hxb9 ho hVd
              refine wp_region_g (fun w' => Lies w' bx 0 (docF x9.boot x9.ses x9.hol)) [(0, 1), (1, 2), (2, 1), (3, 1), (6, 0), (4, 2), (5, 2), (7, 1), (8, 1)] (by kernel_rfl) (by kernel_rfl) (by intro d v c a w h; cases d <;> exact h) ?_
              iterate 1 (refine g_take rfl rfl (fun K hK => ?_); go_simp; refine hK _ ?_; clear hK K)
              refine g_show' rfl rfl (fun K hK => ?_)
              go_simp
              refine hlv9.mono ?_
              rintro e wt ⟨rfl, hw⟩
              obtain rfl := hw.symm
              clear hw
              refine hK _ _ hS ?_
              clear hK K
              iterate 1 (refine g_take rfl rfl (fun K hK => ?_); go_simp; refine hK _ ?_; clear hK K)
              iterate 5 (refine g_offK rfl rfl (fun _ => hS) (fun K hK => ?_); go_simp; refine hK _ ?_; clear hK K)
              iterate 1 (refine g_take rfl rfl (fun K hK => ?_); go_simp; refine hK _ ?_; clear hK K)
              refine g_nil ?_
              have HK11 := Lib.hid (HK9.out.below (Below.refl _ _).drew)
              clear hS hlv9 HK9
              go_wp2
              go_roundw
              case rel => exact ⟨i + 1, by omega, by omega, by go_num, vc, boot, rfl, rfl, HK11.out⟩
              case measure => simp [intOf]; omega
          · rw [HOB.out] at e1
            subst e1
            rw [e2, Bool.not_true] at hlv7
            have HM7' := Lib.hid hM7'
            clear e2 hM7' HD
            have hmb7 := HM7.out
            go_upto_region 39 with (first
              | (go_at_call 15; refine hlv7.mono ?_; rintro e wt ⟨rfl, hw⟩; obtain rfl := hw.symm; clear hw)
              | ((with_reducible refine wpList_loadA haY hLY ?_ ?_); rfl; go_frame)
              | ((with_reducible refine wpList_storeB haY ?_ ?_ hmb7 rfl honY ?_); rfl; rfl; (intro w9 hh9 hm9; have HH9 := Lib.hid hh9; have HM9 := Lib.hid hm9; clear hh9 hm9); go_frame)
              | fail)
            have hV9 : VAt w9 F6 FD6 vc s g p l' d' r' := HV7.out.mod HM9.out (fun b hb e => (HFP.out b hb).2.2.1 e) (fun e => HSB.out.2 e)
            have hw7 : w.heap.size ≤ w7.heap.size := HB07.out.size
            have HK9 : Hid (KSt w (i + 1) vc p bx bm boot w9) := Lib.hid ⟨⟨s, g, F6, FD6, l', d', r', x, y, hV9, HM7'.out.mono (by omega), HQ7.out, fun b hb => ⟨(HFP.out b hb).1, (HFP.out b hb).2.1, (HFP.out b hb).2.2.1⟩, HM9.out.heap HX7.out hne, HH9.out, HXT.out, HYT.out⟩,
              HB07.out.trans (HM9.out.below (show w.heap.size ≤ w7.heap.size from hw7) fun x hx e => by omega), by omega, hbxl, hbml, hne⟩
            clear hw7 hV9 hLY hlv7 HV5 HM HQ HX5 HM5 HOB HV7 HX7 HM7 HY7 HB07 HFP HQ7 HM7' HH9 HM9 hmb7 hby haX haY honY haO honO HC5 HB05
            go_upto_region 39 with fail
            obtain ⟨⟨s9, g9, F9, FD9, l9, d9, r9, x9, m9, hV9, hM9, -, -, hxb9, -, -, -⟩, -, -, -, -, -⟩ := HK9.out
            rcases hM9.offs with ⟨ho, hI, rfl, -⟩ | ⟨ho, -⟩
            · have hVd := hV9.below (Below.refl _ _).drew
              have hlv9 := live_any hVd.fs.disk
              have hrc9 := vrecord_any hVd
              have hpl9 := fun w' => plain_any w' x9 hI.fits.len
              rw [ho, Bool.not_false] at hlv9
              have hbx9 : bx < w9.drew.heap.size := lt_of_block (w := w9.drew) hxb9
              have hS : Lies w9.drew bx 0 (docF x9.boot x9.ses x9.hol) := lies_of (w := w9.drew) hxb9
              have haZ := aggD (b := x9.boot) (s := x9.ses) (h := x9.hol)
              have heqZ : ∀ w, (Op.equalIn 10000 53 (.agg (docF x9.boot x9.ses x9.hol)) (.agg (docF x9.boot x9.ses x9.hol))).run Tryz.prog w = .ok true w := fun w => by rw [eqDoc, eqDocB_refl]
              unfold docC at hpl9
              clear hV9 hM9 hxb9 ho hVd hI
              refine wp_region_g (fun w' => Lies w' bx 0 (docF x9.boot x9.ses x9.hol)) [(0, 1), (1, 2), (2, 1), (3, 1), (6, 0), (4, 2), (5, 2), (7, 1), (8, 1)] (by kernel_rfl) (by kernel_rfl) (by intro d v c a w h; cases d <;> exact h) ?_
              iterate 1 (refine g_take rfl rfl (fun K hK => ?_); go_simp; refine hK _ ?_; clear hK K)
              refine g_show' rfl rfl (fun K hK => ?_)
              go_simp
              refine hlv9.mono ?_
              rintro e wt ⟨rfl, hw⟩
              obtain rfl := hw.symm
              clear hw
              refine hK _ _ hS ?_
              clear hK K
              iterate 2 (refine g_take rfl rfl (fun K hK => ?_); go_simp; refine hK _ ?_; clear hK K)
              refine g_read rfl rfl hS (fun w' h => exec_loadA haZ rfl h) ?_
              refine g_show' rfl rfl (fun K hK => ?_)
              go_simp
              refine hrc9.mono ?_
              rintro e w10 ⟨rfl, hb10⟩
              have hS10 : Lies w10 bx 0 (docF x9.boot x9.ses x9.hol) := fun j hj => (hb10.cell (p := ⟨bx, _, none⟩) hbx9).trans (hS j hj)
              refine hK _ _ hS10 ?_
              clear hK K
              refine g_show' rfl rfl (fun K hK => ?_)
              go_simp
              refine (hpl9 _).mono ?_
              rintro e w11 ⟨rfl, hb11⟩
              have hS11 : Lies w11 bx 0 (docF x9.boot x9.ses x9.hol) := fun j hj => (hb11.cell (p := ⟨bx, _, none⟩) (Nat.lt_of_lt_of_le hbx9 hb10.size)).trans (hS10 j hj)
              refine hK _ _ hS11 ?_
              clear hK K
              refine g_take rfl rfl (fun K hK => ⟨_, fun w' => exec_neqS hgtD heqZ rfl rfl w', ?_⟩)
              go_simp
              refine hK _ ?_
              clear hK K
              iterate 1 (refine g_take rfl rfl (fun K hK => ?_); go_simp; refine hK _ ?_; clear hK K)
              refine g_nil ?_
              have HK11 := Lib.hid (HK9.out.below ((Below.refl _ _).drew.trans ((hb10.mono (Nat.le_refl _)).trans (hb11.mono hb10.size))))
              clear hS hS10 hS11 hb10 hb11 hlv9 hrc9 hpl9 hbx9 haZ heqZ HK9
              go_wp2
              go_roundw
              case rel => exact ⟨i + 1, by omega, by omega, by go_num, vc, boot, rfl, rfl, HK11.out⟩
              case measure => simp [intOf]; omega
            · have hVd := hV9.below (Below.refl _ _).drew
              have hlv9 := live_any hVd.fs.disk
              rw [ho, Bool.not_true] at hlv9
              have hS : Lies w9.drew bx 0 (docF x9.boot x9.ses x9.hol) := lies_of (w := w9.drew) hxb9
              clear hV9 hM9 hxb9 ho hVd
              refine wp_region_g (fun w' => Lies w' bx 0 (docF x9.boot x9.ses x9.hol)) [(0, 1), (1, 2), (2, 1), (3, 1), (6, 0), (4, 2), (5, 2), (7, 1), (8, 1)] (by kernel_rfl) (by kernel_rfl) (by intro d v c a w h; cases d <;> exact h) ?_
              iterate 1 (refine g_take rfl rfl (fun K hK => ?_); go_simp; refine hK _ ?_; clear hK K)
              refine g_show' rfl rfl (fun K hK => ?_)
              go_simp
              refine hlv9.mono ?_
              rintro e wt ⟨rfl, hw⟩
              obtain rfl := hw.symm
              clear hw
              refine hK _ _ hS ?_
              clear hK K
              iterate 1 (refine g_take rfl rfl (fun K hK => ?_); go_simp; refine hK _ ?_; clear hK K)
              iterate 5 (refine g_offK rfl rfl (fun _ => hS) (fun K hK => ?_); go_simp; refine hK _ ?_; clear hK K)
              iterate 1 (refine g_take rfl rfl (fun K hK => ?_); go_simp; refine hK _ ?_; clear hK K)
              refine g_nil ?_
              have HK11 := Lib.hid (HK9.out.below (Below.refl _ _).drew)
              clear hS hlv9 HK9
              go_wp2
              go_roundw
              case rel => exact ⟨i + 1, by omega, by omega, by go_num, vc, boot, rfl, rfl, HK11.out⟩
              case measure => simp [intOf]; omega
          · rw [HOB.out] at e1
            subst e1
            rw [e2, Bool.not_true] at hlv7
            have HM7' := Lib.hid hM7'
            have HK9 : Hid (KSt w (i + 1) vc p bx bm boot w7) := Lib.hid ⟨⟨s, g, F6, FD6, l', d', r', x, m, HV7.out, HM7'.out.mono (by omega), HQ7.out, fun b hb => ⟨(HFP.out b hb).1, (HFP.out b hb).2.1, (HFP.out b hb).2.2.1⟩, HX7.out, HM7.out, HXT.out, HMT.out⟩,
              HB07.out, by omega, hbxl, hbml, hne⟩
            clear e2 hM7' HD hLY hlv7 HV5 HM HQ HX5 HM5 HOB HV7 HX7 HM7 HY7 HB07 HFP HQ7 HM7' hby haX haY honY haO honO HC5 HB05
            go_upto_region 39 with fail
            obtain ⟨⟨s9, g9, F9, FD9, l9, d9, r9, x9, m9, hV9, hM9, -, -, hxb9, -, -, -⟩, -, -, -, -, -⟩ := HK9.out
            rcases hM9.offs with ⟨ho, hI, rfl, -⟩ | ⟨ho, -⟩
            · have hVd := hV9.below (Below.refl _ _).drew
              have hlv9 := live_any hVd.fs.disk
              have hrc9 := vrecord_any hVd
              have hpl9 := fun w' => plain_any w' x9 hI.fits.len
              rw [ho, Bool.not_false] at hlv9
              have hbx9 : bx < w7.drew.heap.size := lt_of_block (w := w7.drew) hxb9
              have hS : Lies w7.drew bx 0 (docF x9.boot x9.ses x9.hol) := lies_of (w := w7.drew) hxb9
              have haZ := aggD (b := x9.boot) (s := x9.ses) (h := x9.hol)
              have heqZ : ∀ w, (Op.equalIn 10000 53 (.agg (docF x9.boot x9.ses x9.hol)) (.agg (docF x9.boot x9.ses x9.hol))).run Tryz.prog w = .ok true w := fun w => by rw [eqDoc, eqDocB_refl]
              unfold docC at hpl9
              clear hV9 hM9 hxb9 ho hVd hI
              refine wp_region_g (fun w' => Lies w' bx 0 (docF x9.boot x9.ses x9.hol)) [(0, 1), (1, 2), (2, 1), (3, 1), (6, 0), (4, 2), (5, 2), (7, 1), (8, 1)] (by kernel_rfl) (by kernel_rfl) (by intro d v c a w h; cases d <;> exact h) ?_
              iterate 1 (refine g_take rfl rfl (fun K hK => ?_); go_simp; refine hK _ ?_; clear hK K)
              refine g_show' rfl rfl (fun K hK => ?_)
              go_simp
              refine hlv9.mono ?_
              rintro e wt ⟨rfl, hw⟩
              obtain rfl := hw.symm
              clear hw
              refine hK _ _ hS ?_
              clear hK K
              iterate 2 (refine g_take rfl rfl (fun K hK => ?_); go_simp; refine hK _ ?_; clear hK K)
              refine g_read rfl rfl hS (fun w' h => exec_loadA haZ rfl h) ?_
              refine g_show' rfl rfl (fun K hK => ?_)
              go_simp
              refine hrc9.mono ?_
              rintro e w10 ⟨rfl, hb10⟩
              have hS10 : Lies w10 bx 0 (docF x9.boot x9.ses x9.hol) := fun j hj => (hb10.cell (p := ⟨bx, _, none⟩) hbx9).trans (hS j hj)
              refine hK _ _ hS10 ?_
              clear hK K
              refine g_show' rfl rfl (fun K hK => ?_)
              go_simp
              refine (hpl9 _).mono ?_
              rintro e w11 ⟨rfl, hb11⟩
              have hS11 : Lies w11 bx 0 (docF x9.boot x9.ses x9.hol) := fun j hj => (hb11.cell (p := ⟨bx, _, none⟩) (Nat.lt_of_lt_of_le hbx9 hb10.size)).trans (hS10 j hj)
              refine hK _ _ hS11 ?_
              clear hK K
              refine g_take rfl rfl (fun K hK => ⟨_, fun w' => exec_neqS hgtD heqZ rfl rfl w', ?_⟩)
              go_simp
              refine hK _ ?_
              clear hK K
              iterate 1 (refine g_take rfl rfl (fun K hK => ?_); go_simp; refine hK _ ?_; clear hK K)
              refine g_nil ?_
              have HK11 := Lib.hid (HK9.out.below ((Below.refl _ _).drew.trans ((hb10.mono (Nat.le_refl _)).trans (hb11.mono hb10.size))))
              clear hS hS10 hS11 hb10 hb11 hlv9 hrc9 hpl9 hbx9 haZ heqZ HK9
              go_wp2
              go_roundw
              case rel => exact ⟨i + 1, by omega, by omega, by go_num, vc, boot, rfl, rfl, HK11.out⟩
              case measure => simp [intOf]; omega
            · have hVd := hV9.below (Below.refl _ _).drew
              have hlv9 := live_any hVd.fs.disk
              rw [ho, Bool.not_true] at hlv9
              have hS : Lies w7.drew bx 0 (docF x9.boot x9.ses x9.hol) := lies_of (w := w7.drew) hxb9
              clear hV9 hM9 hxb9 ho hVd
              refine wp_region_g (fun w' => Lies w' bx 0 (docF x9.boot x9.ses x9.hol)) [(0, 1), (1, 2), (2, 1), (3, 1), (6, 0), (4, 2), (5, 2), (7, 1), (8, 1)] (by kernel_rfl) (by kernel_rfl) (by intro d v c a w h; cases d <;> exact h) ?_
              iterate 1 (refine g_take rfl rfl (fun K hK => ?_); go_simp; refine hK _ ?_; clear hK K)
              refine g_show' rfl rfl (fun K hK => ?_)
              go_simp
              refine hlv9.mono ?_
              rintro e wt ⟨rfl, hw⟩
              obtain rfl := hw.symm
              clear hw
              refine hK _ _ hS ?_
              clear hK K
              iterate 1 (refine g_take rfl rfl (fun K hK => ?_); go_simp; refine hK _ ?_; clear hK K)
              iterate 5 (refine g_offK rfl rfl (fun _ => hS) (fun K hK => ?_); go_simp; refine hK _ ?_; clear hK K)
              iterate 1 (refine g_take rfl rfl (fun K hK => ?_); go_simp; refine hK _ ?_; clear hK K)
              refine g_nil ?_
              have HK11 := Lib.hid (HK9.out.below (Below.refl _ _).drew)
              clear hS hlv9 HK9
              go_wp2
              go_roundw
              case rel => exact ⟨i + 1, by omega, by omega, by go_num, vc, boot, rfl, rfl, HK11.out⟩
              case measure => simp [intOf]; omega
      · have e0 : (kd == 0) = false := by simp; omega
        have e1 : (kd == 1) = false := by simp; omega
        clear hk01
        by_cases hk2 : kd = 2
        · subst hk2
          as_aux_lemma =>
          have hfu := fuse_any HV5.out.fs.disk nm HDX.out.num.2
          go_wp2_with fail
          refine hfu.mono ?_
          rintro e w6 ⟨rfl, hD6, hm6⟩
          have HK9 : Hid (KSt w (i + 1) vc p bx bm boot w6) := Lib.hid ⟨⟨s, g, F, FD, l, d.arm nm, r, x, m, HV5.out.arm hD6 hm6, (HM.out.arm HDX.out.num.2).mono (by omega), by rw [(arm_L d nm).2]; have := HQ.out; omega, fun b hb => ⟨(HLO.out b hb).1, (HLO.out b hb).2.1, (HLO.out b hb).2.2.1⟩,
            hm6.heap HX5.out (fun e => (HLO.out bx (.inl (.inr e))).2.1 rfl), hm6.heap HM5.out (fun e => (HLO.out bm (.inl (.inr e))).2.2.1 rfl), HXT.out, HMT.out⟩,
            HB05.out.trans (hm6.below HB05.out.size fun x hx e => by have := (HLO.out x (.inl (.inr e))).1; omega), by omega, hbxl, hbml, hne⟩
          clear hfu hD6 hm6 HV5 HM HQ HLO HX5 HM5 HXT HMT HB05 HC5 hLO c0 c2 c5' haO honO
          go_upto_region 39 with fail
          obtain ⟨⟨s9, g9, F9, FD9, l9, d9, r9, x9, m9, hV9, hM9, -, -, hxb9, -, -, -⟩, -, -, -, -, -⟩ := HK9.out
          rcases hM9.offs with ⟨ho, hI, rfl, -⟩ | ⟨ho, -⟩
          · have hVd := hV9.below (Below.refl _ _).drew
            have hlv9 := live_any hVd.fs.disk
            have hrc9 := vrecord_any hVd
            have hpl9 := fun w' => plain_any w' x9 hI.fits.len
            rw [ho, Bool.not_false] at hlv9
            have hbx9 : bx < w6.drew.heap.size := lt_of_block (w := w6.drew) hxb9
            have hS : Lies w6.drew bx 0 (docF x9.boot x9.ses x9.hol) := lies_of (w := w6.drew) hxb9
            have haZ := aggD (b := x9.boot) (s := x9.ses) (h := x9.hol)
            have heqZ : ∀ w, (Op.equalIn 10000 53 (.agg (docF x9.boot x9.ses x9.hol)) (.agg (docF x9.boot x9.ses x9.hol))).run Tryz.prog w = .ok true w := fun w => by rw [eqDoc, eqDocB_refl]
            unfold docC at hpl9
            clear hV9 hM9 hxb9 ho hVd hI
            refine wp_region_g (fun w' => Lies w' bx 0 (docF x9.boot x9.ses x9.hol)) [(0, 1), (1, 2), (2, 1), (3, 1), (6, 0), (4, 2), (5, 2), (7, 1), (8, 1)] (by kernel_rfl) (by kernel_rfl) (by intro d v c a w h; cases d <;> exact h) ?_
            iterate 1 (refine g_take rfl rfl (fun K hK => ?_); go_simp; refine hK _ ?_; clear hK K)
            refine g_show' rfl rfl (fun K hK => ?_)
            go_simp
            refine hlv9.mono ?_
            rintro e wt ⟨rfl, hw⟩
            obtain rfl := hw.symm
            clear hw
            refine hK _ _ hS ?_
            clear hK K
            iterate 2 (refine g_take rfl rfl (fun K hK => ?_); go_simp; refine hK _ ?_; clear hK K)
            refine g_read rfl rfl hS (fun w' h => exec_loadA haZ rfl h) ?_
            refine g_show' rfl rfl (fun K hK => ?_)
            go_simp
            refine hrc9.mono ?_
            rintro e w10 ⟨rfl, hb10⟩
            have hS10 : Lies w10 bx 0 (docF x9.boot x9.ses x9.hol) := fun j hj => (hb10.cell (p := ⟨bx, _, none⟩) hbx9).trans (hS j hj)
            refine hK _ _ hS10 ?_
            clear hK K
            refine g_show' rfl rfl (fun K hK => ?_)
            go_simp
            refine (hpl9 _).mono ?_
            rintro e w11 ⟨rfl, hb11⟩
            have hS11 : Lies w11 bx 0 (docF x9.boot x9.ses x9.hol) := fun j hj => (hb11.cell (p := ⟨bx, _, none⟩) (Nat.lt_of_lt_of_le hbx9 hb10.size)).trans (hS10 j hj)
            refine hK _ _ hS11 ?_
            clear hK K
            refine g_take rfl rfl (fun K hK => ⟨_, fun w' => exec_neqS hgtD heqZ rfl rfl w', ?_⟩)
            go_simp
            refine hK _ ?_
            clear hK K
            iterate 1 (refine g_take rfl rfl (fun K hK => ?_); go_simp; refine hK _ ?_; clear hK K)
            refine g_nil ?_
            have HK11 := Lib.hid (HK9.out.below ((Below.refl _ _).drew.trans ((hb10.mono (Nat.le_refl _)).trans (hb11.mono hb10.size))))
            clear hS hS10 hS11 hb10 hb11 hlv9 hrc9 hpl9 hbx9 haZ heqZ HK9
            go_wp2
            go_roundw
            case rel => exact ⟨i + 1, by omega, by omega, by go_num, vc, boot, rfl, rfl, HK11.out⟩
            case measure => simp [intOf]; omega
          · have hVd := hV9.below (Below.refl _ _).drew
            have hlv9 := live_any hVd.fs.disk
            rw [ho, Bool.not_true] at hlv9
            have hS : Lies w6.drew bx 0 (docF x9.boot x9.ses x9.hol) := lies_of (w := w6.drew) hxb9
            clear hV9 hM9 hxb9 ho hVd
            refine wp_region_g (fun w' => Lies w' bx 0 (docF x9.boot x9.ses x9.hol)) [(0, 1), (1, 2), (2, 1), (3, 1), (6, 0), (4, 2), (5, 2), (7, 1), (8, 1)] (by kernel_rfl) (by kernel_rfl) (by intro d v c a w h; cases d <;> exact h) ?_
            iterate 1 (refine g_take rfl rfl (fun K hK => ?_); go_simp; refine hK _ ?_; clear hK K)
            refine g_show' rfl rfl (fun K hK => ?_)
            go_simp
            refine hlv9.mono ?_
            rintro e wt ⟨rfl, hw⟩
            obtain rfl := hw.symm
            clear hw
            refine hK _ _ hS ?_
            clear hK K
            iterate 1 (refine g_take rfl rfl (fun K hK => ?_); go_simp; refine hK _ ?_; clear hK K)
            iterate 5 (refine g_offK rfl rfl (fun _ => hS) (fun K hK => ?_); go_simp; refine hK _ ?_; clear hK K)
            iterate 1 (refine g_take rfl rfl (fun K hK => ?_); go_simp; refine hK _ ?_; clear hK K)
            refine g_nil ?_
            have HK11 := Lib.hid (HK9.out.below (Below.refl _ _).drew)
            clear hS hlv9 HK9
            go_wp2
            go_roundw
            case rel => exact ⟨i + 1, by omega, by omega, by go_num, vc, boot, rfl, rfl, HK11.out⟩
            case measure => simp [intOf]; omega
        · have e2 : (kd == 2) = false := by simp [hk2]
          by_cases hk3 : kd = 3
          · subst hk3
            as_aux_lemma =>
            have hkF : 0 < kp.length → ∀ r, (Value.slice a5 n5 c5).ownBlock = some r → ¬ FD r := fun h0 r hr e => by
              obtain ⟨ao, cp, hv, -, -, h3⟩ := HDX.out.keep
              simp only at h3
              obtain ⟨b, o, rfl, hlt, -⟩ := h3 h0
              have hv : Value.slice a5 n5 c5 = .slice (some ⟨b, o, none⟩) kp.length cp := hv
              rw [hv] at hr
              cases hr
              have h1 : w.heap.size ≤ b := (HLO.out _ (.inl (.inr e))).1
              exact absurd hlt (Nat.not_lt.2 h1)
            have hcr := dcrash_any HV5.out.fs.disk (.slice a5 n5 c5) kp (HDX.out.keep.below HB05.out) hkF nm
            obtain ⟨l2, r0, o1, o2, i2, hr0⟩ := HM.out.crash (by omega) kp nm
            obtain ⟨qq, qz⟩ := dcrash_quiet d kp nm
            have hbt0 : r0.boot = boot := by
              rcases hr0 with rfl | rfl
              · exact HXT.out
              · exact HMT.out
            generalize d.crash kp nm = dc at hcr o1 o2 i2 qq qz
            have O1 := Lib.hid o1
            have O2 := Lib.hid o2
            have I2 := Lib.hid i2
            have HR0 := Lib.hid hr0
            have HBT0 := Lib.hid hbt0
            have QQ := Lib.hid qq
            have QZ := Lib.hid qz
            clear hkF o1 o2 i2 hr0 hbt0 qq qz hLO
            go_wp2_with fail
            refine hcr.mono ?_
            rintro e w6 ⟨rfl, hD6, hm6⟩
            obtain ⟨l3, d3, i3, q3, z3, hop⟩ := vanew_any hD6 O1.out O2.out I2.out (by omega) QQ.out QZ.out (by rw [HBT0.out]; omega)
            have hx6 := hm6.heap HX5.out (fun e => (HLO.out bx (.inl (.inr e))).2.1 rfl)
            have hm6' := hm6.heap HM5.out (fun e => (HLO.out bm (.inl (.inr e))).2.2.1 rfl)
            have hb06 : Below w.heap.size w w6 := HB05.out.trans (hm6.below HB05.out.size fun x hx e => by have := (HLO.out x (.inl (.inr e))).1; omega)
            have hz56 : w5.heap.size ≤ w6.heap.size := hm6.size
            have HX6 := Lib.hid hx6
            have HM6 := Lib.hid hm6'
            have HB06 := Lib.hid hb06
            have HZ56 := Lib.hid hz56
            have I3 := Lib.hid i3
            have Z3 := Lib.hid z3
            clear hcr hD6 hm6 i3 q3 z3 hx6 hm6' hb06 hz56 O1 O2 QQ QZ HX5 HM5 HB05 HM HQ
            go_wp2_with fail
            refine hop.mono ?_
            rintro e w7 ⟨v7, s7, g7, F7, FD7, rfl, hV7, hm7, h17, h27, hv7⟩
            have hfp7 : ∀ b, (F7 b ∨ FD7 b) ∨ b = v7 → w.heap.size ≤ b ∧ b ≠ bx ∧ b ≠ bm ∧ b < w7.heap.size := fun b hb => by
              have h6 := HB06.out.size
              have h56 := HZ56.out
              rcases hb with (hb | hb) | hb
              · have := h17 b hb
                exact ⟨by omega, by omega, by omega, hV7.fs.log.lt b hb⟩
              · have h3 := hV7.fs.disk.lt b hb
                rcases h27 b hb with h | h
                · obtain ⟨h1, h2, h4, -⟩ := HLO.out b (.inl (.inr h)); exact ⟨h1, h2, h4, h3⟩
                · exact ⟨by omega, by omega, by omega, h3⟩
              · have := lt_of_block hV7.blk
                exact ⟨by omega, by omega, by omega, by omega⟩
            have hx7 := hm7.heap HX6.out (fun e => (HLO.out bx (.inl (.inr e))).2.1 rfl)
            have hmm7 := hm7.heap HM6.out (fun e => (HLO.out bm (.inl (.inr e))).2.2.1 rfl)
            have hb07 : Below w.heap.size w w7 := HB06.out.trans (hm7.below HB06.out.size fun x hx e => by have := (HLO.out x (.inl (.inr e))).1; omega)
            have hrc7 := vrecord_any hV7
            have HV7 := Lib.hid hV7
            have HFP := Lib.hid hfp7
            have HX7 := Lib.hid hx7
            have HM7 := Lib.hid hmm7
            have HB07 := Lib.hid hb07
            clear hop hV7 hm7 h17 h27 hv7 hfp7 hx7 hmm7 hb07 HX6 HM6 HB06 HZ56 HLO HV5
            go_wp2_with fail
            refine hrc7.mono ?_
            rintro e w8 ⟨rfl, hb8⟩
            have hpl8 := plain_any w8 r0.up I3.out.fits.len
            have HB8 := Lib.hid hb8
            clear hrc7 hb8
            go_wp2_with fail
            refine hpl8.mono ?_
            rintro e w9 ⟨rfl, hb9⟩
            have hb79 := HB8.out.trans (hb9.mono HB8.out.size)
            have hut : r0.up.boot = boot + 1 := by show r0.boot + 1 = boot + 1; rw [HBT0.out]
            unfold docC
            generalize hb1 : r0.up.boot = b1 at hut ⊢
            have HBE := Lib.hid hb1
            clear hb1
            have HUT := Lib.hid hut
            have hdl : decide (b1 ≤ boot) = false := decide_eq_false (by omega)
            clear hut
            have haU := aggD (b := b1) (s := r0.up.ses) (h := r0.up.hol)
            have honU := docF_one (b := b1) (s := r0.up.ses) (h := r0.up.hol)
            have hb10 : Below w7.heap.size w7 (w9.alloc (.cells (docF b1 r0.up.ses r0.up.hol) 53)) := hb79.alloc hb79.size _
            have hk10 : (w9.alloc (.cells (docF b1 r0.up.ses r0.up.hol) 53)).heap[w9.heap.size]? = some (.cells (docF b1 r0.up.ses r0.up.hol) 53 (0, 0)) := heap_alloc_at
            have hz79 : w7.heap.size ≤ w9.heap.size := hb79.size
            have HB10 := Lib.hid hb10
            have HK10 := Lib.hid hk10
            have HZ79 := Lib.hid hz79
            clear hpl8 hb9 hb79 hb10 hk10 hz79
            go_upto_region 32 with (first
              | ((with_reducible refine wpList_storeA_new haU ?_ honU ?_ ?_ ?_); rfl; rfl; rfl; go_frame)
              | fail)
            generalize hnb : w9.heap.size = nb at *
            generalize w9.alloc (.cells (docF b1 r0.up.ses r0.up.hol) 53) = w10 at *
            have hV10 := (HV7.out.below HB10.out).below (Below.refl _ _).drew
            have hvb := vboot_any hV10
            rw [HBE.out] at hvb
            have hS : w10.drew.cell? ⟨nb, 0, none⟩ = some (.int .u64 (b1 : Nat)) := cell_of (w := w10.drew) HK10.out rfl
            refine wp_region_g (fun w' => w'.cell? ⟨nb, 0, none⟩ = some (.int .u64 (b1 : Nat))) [(0, 1), (1, 0), (2, 1), (3, 1), (4, 1), (5, 1), (7, 1), (8, 0), (6, 2), (9, 1), (10, 1)] (by kernel_rfl) (by kernel_rfl) (by intro d v c a w h; cases d <;> exact h) ?_
            iterate 1 (refine g_take rfl rfl (fun K hK => ?_); go_simp; refine hK _ ?_; clear hK K)
            refine g_read rfl rfl hS (fun w' h => exec_load1 ⟨⟨_, Tryz.underlying30, rfl⟩⟩ rfl h) ?_
            iterate 5 (refine g_take rfl rfl (fun K hK => ?_); go_simp; refine hK _ ?_; clear hK K)
            refine g_read rfl rfl hS (fun w' h => exec_load1 ⟨⟨_, Tryz.underlying30, rfl⟩⟩ rfl h) ?_
            refine g_show' rfl rfl (fun K hK => ?_)
            go_simp
            refine hvb.mono ?_
            rintro e w11 ⟨rfl, hb11⟩
            have hb1011 : Below w10.heap.size w10 w11 := (Below.refl _ _).drew.trans hb11
            have hS11 := (hb1011.cell (p := ⟨nb, 0, none⟩) (World.block_lt_of_cell? w10 _ hS)).trans (show w10.cell? ⟨nb, 0, none⟩ = _ from hS)
            refine hK _ _ hS11 ?_
            clear hK K
            iterate 2 (refine g_take rfl rfl (fun K hK => ?_); go_simp; refine hK _ ?_; clear hK K)
            refine g_nil ?_
            have hB11 := HB10.out.trans (hb1011.mono HB10.out.size)
            have hn11 := (hb1011.block nb (lt_of_block HK10.out)).trans HK10.out
            have hx11 := (hB11.block bx (lt_of_block HX7.out)).trans HX7.out
            have hm11 := (hB11.block bm (lt_of_block HM7.out)).trans HM7.out
            have hnx : nb ≠ bx ∧ nb ≠ bm := by
              have h1 := lt_of_block HX7.out
              have h2 := lt_of_block HM7.out
              have h3 := HZ79.out
              omega
            have hV11 := HV7.out.below hB11
            have hb011 := HB07.out.trans (hB11.mono HB07.out.size)
            have q1 : w11.cell? ⟨bx, 0, none⟩ = some (.int .u64 (x.boot : Nat)) := cell_of hx11 rfl
            have q2 : w11.cell? ⟨bm, 0, none⟩ = some (.int .u64 (m.boot : Nat)) := cell_of hm11 rfl
            have f1 : w11.frozen? ⟨bx, 0, none⟩ = false := free_of hx11
            have f2 : w11.frozen? ⟨bm, 0, none⟩ = false := free_of hm11
            have HX11 := Lib.hid hx11
            have HM11 := Lib.hid hm11
            have HN11 := Lib.hid hn11
            have HV11 := Lib.hid hV11
            have HB011 := Lib.hid hb011
            have HNX := Lib.hid hnx
            clear hV10 hvb hS hb11 hb1011 hB11 hn11 hx11 hm11 hV11 hb011 HV7 HX7 HM7 HB07 HB10 HK10 HZ79 HB8 hdl hnb hnx
            go_upto_region 36 with fail
            have hx12 : ((w11.setCell ⟨bx, 0, none⟩ (.int .u64 (b1 : Nat))).setCell ⟨bm, 0, none⟩ (.int .u64 (b1 : Nat))).heap[bx]? = some (.cells (docF b1 x.ses x.hol) 53 (0, 0)) := by
              rw [heap_setCell_ne hne, heap_setCell_at HX11.out]
              rfl
            have hm12 : ((w11.setCell ⟨bx, 0, none⟩ (.int .u64 (b1 : Nat))).setCell ⟨bm, 0, none⟩ (.int .u64 (b1 : Nat))).heap[bm]? = some (.cells (docF b1 m.ses m.hol) 53 (0, 0)) := by
              rw [heap_setCell_at (heap_setCell_of HM11.out (Ne.symm hne))]
              rfl
            have hmm12 := ((Mod.refl (fun b => b = bx ∨ b = bm) w11).setCell ⟨bx, 0, none⟩ (.int .u64 (b1 : Nat)) (fun _ => .inl rfl)).setCell ⟨bm, 0, none⟩ (.int .u64 (b1 : Nat)) (fun _ => .inr rfl)
            generalize (w11.setCell ⟨bx, 0, none⟩ (.int .u64 (b1 : Nat))).setCell ⟨bm, 0, none⟩ (.int .u64 (b1 : Nat)) = w12 at *
            have hn12 := hmm12.heap HN11.out (fun e => by rcases e with e | e; exact HNX.out.1 e; exact HNX.out.2 e)
            have hLN := lies_of hn12
            have hLM := lies_of hm12
            have haM := aggD (b := b1) (s := m.ses) (h := m.hol)
            have honM := docF_one (b := b1) (s := m.ses) (h := m.hol)
            have haX := aggD (b := b1) (s := x.ses) (h := x.hol)
            have honX := docF_one (b := b1) (s := x.ses) (h := x.hol)
            obtain ⟨q, hq⟩ : ∃ q, eqDocB b1 b1 r0.up.ses m.ses r0.up.hol m.hol = q := ⟨_, rfl⟩
            have heqQ : ∀ w, (Op.equalIn 10000 53 (.agg (docF b1 r0.up.ses r0.up.hol)) (.agg (docF b1 m.ses m.hol))).run Tryz.prog w = .ok q w := fun w => by rw [eqDoc, hq]
            have HQE := Lib.hid hq
            have HX12 := Lib.hid hx12
            have HM12 := Lib.hid hm12
            have HMM := Lib.hid hmm12
            have hwx := HB011.out.size
            have HE : ∀ w9, w9.heap[bx]? = some (.cells (docC r0.up) 53 (0, 0)) → w9.heap[bm]? = some (.cells (docC r0.up) 53 (0, 0)) → Mod (fun b => b = bx ∨ b = bm) w11 w9 → Hid (KSt w (i + 1) v7 p bx bm b1 w9) := fun w9 h1 h2 h3 => Lib.hid ⟨⟨s7, g7, F7, FD7, l3, d3, r0.up, r0.up, r0.up, HV11.out.mod h3 (fun b hb e => by
                obtain ⟨-, k2, k3, -⟩ := HFP.out b hb
                rcases e with e | e
                · exact k2 e
                · exact k3 e) (fun e => by
                have h0 := HV11.out.fs.blk
                have e : s7 = bx ∨ s7 = bm := e
                rcases e with rfl | rfl
                · rw [HX11.out] at h0; cases h0
                · rw [HM11.out] at h0; cases h0), .on (I3.out.mono (by omega)) rfl rfl, by rw [Z3.out]; exact Nat.zero_le _, fun b hb => ⟨(HFP.out b hb).1, (HFP.out b hb).2.1, (HFP.out b hb).2.2.1⟩, h1, h2, HBE.out, HBE.out⟩,
                HB011.out.trans (h3.below hwx fun x hx e => by rcases e with e | e <;> omega), by have := HUT.out; omega, hbxl, hbml, hne⟩
            have HEH := Lib.hid HE
            clear hq hx12 hm12 hmm12 hn12 q1 q2 f1 f2 HE
            cases q with
            | true =>
              have hxb12 := HX12.out
              go_upto_region 38 with (first
                | ((with_reducible refine wpList_loadA haU hLN ?_ ?_); rfl; go_frame)
                | ((with_reducible refine wpList_loadA haM hLM ?_ ?_); rfl; go_frame)
                | ((with_reducible refine wpList_exec rfl (exec_eqlS hgtD heqQ ?_ ?_ _) ?_); rfl; rfl; go_frame)
                | ((with_reducible refine wpList_storeB haM ?_ ?_ hxb12 rfl honM ?_); rfl; rfl; (intro w13 hh9 hm9; have HH9 := Lib.hid hh9; have HM9 := Lib.hid hm9; clear hh9 hm9); go_frame)
                | fail)
              have hL13 := lies_of HH9.out
              have hmb13 := HM9.out.heap HM12.out (fun e => hne e.symm)
              clear hxb12 hLN hLM heqQ
              go_upto_region 39 with (first
                | ((with_reducible refine wpList_loadA haM hL13 ?_ ?_); rfl; go_frame)
                | ((with_reducible refine wpList_storeB haM ?_ ?_ hmb13 rfl honM ?_); rfl; rfl; (intro w14 hh8 hm8; have HH8 := Lib.hid hh8; have HM8 := Lib.hid hm8; clear hh8 hm8); go_frame)
                | fail)
              have hee : docC r0.up = docF b1 m.ses m.hol := by
                have := eqDocB_eq HQE.out
                unfold docC
                rw [HBE.out]
                exact this
              have HK9 := HEH.out w14 (by rw [hee]; exact HM8.out.heap HH9.out hne) (by rw [hee]; exact HH8.out) (HMM.out.trans (HM9.out.trans HM8.out (T := fun b => b = bx ∨ b = bm) (fun x h => .inl h) (fun x _ h => .inr h)) (fun x h => h) (fun x _ h => h))
              clear hL13 hmb13 hee HEH haM honM haX honX haU honU HH8 HM8 HH9 HM9 HX12 HM12 HMM HQE HX11 HM11 HN11 HV11 HB011 HNX HFP I3 Z3 HUT HBE I2 HR0 HBT0 HC5 hwx
              go_upto_region 39 with fail
              obtain ⟨⟨s9, g9, F9, FD9, l9, d9, r9, x9, m9, hV9, hM9, -, -, hxb9, -, -, -⟩, -, -, -, -, -⟩ := HK9.out
              rcases hM9.offs with ⟨ho, hI, rfl, -⟩ | ⟨ho, -⟩
              · have hVd := hV9.below (Below.refl _ _).drew
                have hlv9 := live_any hVd.fs.disk
                have hrc9 := vrecord_any hVd
                have hpl9 := fun w' => plain_any w' x9 hI.fits.len
                rw [ho, Bool.not_false] at hlv9
                have hbx9 : bx < w14.drew.heap.size := lt_of_block (w := w14.drew) hxb9
                have hS : Lies w14.drew bx 0 (docF x9.boot x9.ses x9.hol) := lies_of (w := w14.drew) hxb9
                have haZ := aggD (b := x9.boot) (s := x9.ses) (h := x9.hol)
                have heqZ : ∀ w, (Op.equalIn 10000 53 (.agg (docF x9.boot x9.ses x9.hol)) (.agg (docF x9.boot x9.ses x9.hol))).run Tryz.prog w = .ok true w := fun w => by rw [eqDoc, eqDocB_refl]
                unfold docC at hpl9
                clear hV9 hM9 hxb9 ho hVd hI
                refine wp_region_g (fun w' => Lies w' bx 0 (docF x9.boot x9.ses x9.hol)) [(0, 1), (1, 2), (2, 1), (3, 1), (6, 0), (4, 2), (5, 2), (7, 1), (8, 1)] (by kernel_rfl) (by kernel_rfl) (by intro d v c a w h; cases d <;> exact h) ?_
                iterate 1 (refine g_take rfl rfl (fun K hK => ?_); go_simp; refine hK _ ?_; clear hK K)
                refine g_show' rfl rfl (fun K hK => ?_)
                go_simp
                refine hlv9.mono ?_
                rintro e wt ⟨rfl, hw⟩
                obtain rfl := hw.symm
                clear hw
                refine hK _ _ hS ?_
                clear hK K
                iterate 2 (refine g_take rfl rfl (fun K hK => ?_); go_simp; refine hK _ ?_; clear hK K)
                refine g_read rfl rfl hS (fun w' h => exec_loadA haZ rfl h) ?_
                refine g_show' rfl rfl (fun K hK => ?_)
                go_simp
                refine hrc9.mono ?_
                rintro e w10 ⟨rfl, hb10⟩
                have hS10 : Lies w10 bx 0 (docF x9.boot x9.ses x9.hol) := fun j hj => (hb10.cell (p := ⟨bx, _, none⟩) hbx9).trans (hS j hj)
                refine hK _ _ hS10 ?_
                clear hK K
                refine g_show' rfl rfl (fun K hK => ?_)
                go_simp
                refine (hpl9 _).mono ?_
                rintro e w11 ⟨rfl, hb11⟩
                have hS11 : Lies w11 bx 0 (docF x9.boot x9.ses x9.hol) := fun j hj => (hb11.cell (p := ⟨bx, _, none⟩) (Nat.lt_of_lt_of_le hbx9 hb10.size)).trans (hS10 j hj)
                refine hK _ _ hS11 ?_
                clear hK K
                refine g_take rfl rfl (fun K hK => ⟨_, fun w' => exec_neqS hgtD heqZ rfl rfl w', ?_⟩)
                go_simp
                refine hK _ ?_
                clear hK K
                iterate 1 (refine g_take rfl rfl (fun K hK => ?_); go_simp; refine hK _ ?_; clear hK K)
                refine g_nil ?_
                have HK11 := Lib.hid (HK9.out.below ((Below.refl _ _).drew.trans ((hb10.mono (Nat.le_refl _)).trans (hb11.mono hb10.size))))
                clear hS hS10 hS11 hb10 hb11 hlv9 hrc9 hpl9 hbx9 haZ heqZ HK9
                go_wp2
                go_roundw
                case rel => exact ⟨i + 1, by omega, by omega, by go_num, v7, b1, rfl, rfl, HK11.out⟩
                case measure => simp [intOf]; omega
              · have hVd := hV9.below (Below.refl _ _).drew
                have hlv9 := live_any hVd.fs.disk
                rw [ho, Bool.not_true] at hlv9
                have hS : Lies w14.drew bx 0 (docF x9.boot x9.ses x9.hol) := lies_of (w := w14.drew) hxb9
                clear hV9 hM9 hxb9 ho hVd
                refine wp_region_g (fun w' => Lies w' bx 0 (docF x9.boot x9.ses x9.hol)) [(0, 1), (1, 2), (2, 1), (3, 1), (6, 0), (4, 2), (5, 2), (7, 1), (8, 1)] (by kernel_rfl) (by kernel_rfl) (by intro d v c a w h; cases d <;> exact h) ?_
                iterate 1 (refine g_take rfl rfl (fun K hK => ?_); go_simp; refine hK _ ?_; clear hK K)
                refine g_show' rfl rfl (fun K hK => ?_)
                go_simp
                refine hlv9.mono ?_
                rintro e wt ⟨rfl, hw⟩
                obtain rfl := hw.symm
                clear hw
                refine hK _ _ hS ?_
                clear hK K
                iterate 1 (refine g_take rfl rfl (fun K hK => ?_); go_simp; refine hK _ ?_; clear hK K)
                iterate 5 (refine g_offK rfl rfl (fun _ => hS) (fun K hK => ?_); go_simp; refine hK _ ?_; clear hK K)
                iterate 1 (refine g_take rfl rfl (fun K hK => ?_); go_simp; refine hK _ ?_; clear hK K)
                refine g_nil ?_
                have HK11 := Lib.hid (HK9.out.below (Below.refl _ _).drew)
                clear hS hlv9 HK9
                go_wp2
                go_roundw
                case rel => exact ⟨i + 1, by omega, by omega, by go_num, v7, b1, rfl, rfl, HK11.out⟩
                case measure => simp [intOf]; omega
            | false =>
              go_upto_region 38 with (first
                | ((with_reducible refine wpList_loadA haU hLN ?_ ?_); rfl; go_frame)
                | ((with_reducible refine wpList_loadA haM hLM ?_ ?_); rfl; go_frame)
                | ((with_reducible refine wpList_exec rfl (exec_eqlS hgtD heqQ ?_ ?_ _) ?_); rfl; rfl; go_frame)
                | fail)
              have hL13 := lies_of HX12.out
              have hmb13 := HM12.out
              clear hLN hLM heqQ
              go_upto_region 39 with (first
                | ((with_reducible refine wpList_loadA haX hL13 ?_ ?_); rfl; go_frame)
                | ((with_reducible refine wpList_storeB haX ?_ ?_ hmb13 rfl honX ?_); rfl; rfl; (intro w14 hh8 hm8; have HH8 := Lib.hid hh8; have HM8 := Lib.hid hm8; clear hh8 hm8); go_frame)
                | fail)
              have hee : docC r0.up = docF b1 x.ses x.hol := by
                have h1 := HQE.out
                unfold docC
                rw [HBE.out]
                rcases HR0.out with rfl | rfl
                · rfl
                · exfalso
                  have : eqDocB b1 b1 r0.up.ses r0.ses r0.up.hol r0.hol = true := eqDocB_refl b1 r0.ses r0.hol
                  rw [this] at h1
                  cases h1
              have HK9 := HEH.out w14 (by rw [hee]; exact HM8.out.heap HX12.out hne) (by rw [hee]; exact HH8.out) (HMM.out.trans HM8.out (T := fun b => b = bx ∨ b = bm) (fun x h => h) (fun x _ h => .inr h))
              clear hL13 hmb13 hee HEH haM honM haX honX haU honU HH8 HM8 HX12 HM12 HMM HQE HX11 HM11 HN11 HV11 HB011 HNX HFP I3 Z3 HUT HBE I2 HR0 HBT0 HC5 hwx
              go_upto_region 39 with fail
              obtain ⟨⟨s9, g9, F9, FD9, l9, d9, r9, x9, m9, hV9, hM9, -, -, hxb9, -, -, -⟩, -, -, -, -, -⟩ := HK9.out
              rcases hM9.offs with ⟨ho, hI, rfl, -⟩ | ⟨ho, -⟩
              · have hVd := hV9.below (Below.refl _ _).drew
                have hlv9 := live_any hVd.fs.disk
                have hrc9 := vrecord_any hVd
                have hpl9 := fun w' => plain_any w' x9 hI.fits.len
                rw [ho, Bool.not_false] at hlv9
                have hbx9 : bx < w14.drew.heap.size := lt_of_block (w := w14.drew) hxb9
                have hS : Lies w14.drew bx 0 (docF x9.boot x9.ses x9.hol) := lies_of (w := w14.drew) hxb9
                have haZ := aggD (b := x9.boot) (s := x9.ses) (h := x9.hol)
                have heqZ : ∀ w, (Op.equalIn 10000 53 (.agg (docF x9.boot x9.ses x9.hol)) (.agg (docF x9.boot x9.ses x9.hol))).run Tryz.prog w = .ok true w := fun w => by rw [eqDoc, eqDocB_refl]
                unfold docC at hpl9
                clear hV9 hM9 hxb9 ho hVd hI
                refine wp_region_g (fun w' => Lies w' bx 0 (docF x9.boot x9.ses x9.hol)) [(0, 1), (1, 2), (2, 1), (3, 1), (6, 0), (4, 2), (5, 2), (7, 1), (8, 1)] (by kernel_rfl) (by kernel_rfl) (by intro d v c a w h; cases d <;> exact h) ?_
                iterate 1 (refine g_take rfl rfl (fun K hK => ?_); go_simp; refine hK _ ?_; clear hK K)
                refine g_show' rfl rfl (fun K hK => ?_)
                go_simp
                refine hlv9.mono ?_
                rintro e wt ⟨rfl, hw⟩
                obtain rfl := hw.symm
                clear hw
                refine hK _ _ hS ?_
                clear hK K
                iterate 2 (refine g_take rfl rfl (fun K hK => ?_); go_simp; refine hK _ ?_; clear hK K)
                refine g_read rfl rfl hS (fun w' h => exec_loadA haZ rfl h) ?_
                refine g_show' rfl rfl (fun K hK => ?_)
                go_simp
                refine hrc9.mono ?_
                rintro e w10 ⟨rfl, hb10⟩
                have hS10 : Lies w10 bx 0 (docF x9.boot x9.ses x9.hol) := fun j hj => (hb10.cell (p := ⟨bx, _, none⟩) hbx9).trans (hS j hj)
                refine hK _ _ hS10 ?_
                clear hK K
                refine g_show' rfl rfl (fun K hK => ?_)
                go_simp
                refine (hpl9 _).mono ?_
                rintro e w11 ⟨rfl, hb11⟩
                have hS11 : Lies w11 bx 0 (docF x9.boot x9.ses x9.hol) := fun j hj => (hb11.cell (p := ⟨bx, _, none⟩) (Nat.lt_of_lt_of_le hbx9 hb10.size)).trans (hS10 j hj)
                refine hK _ _ hS11 ?_
                clear hK K
                refine g_take rfl rfl (fun K hK => ⟨_, fun w' => exec_neqS hgtD heqZ rfl rfl w', ?_⟩)
                go_simp
                refine hK _ ?_
                clear hK K
                iterate 1 (refine g_take rfl rfl (fun K hK => ?_); go_simp; refine hK _ ?_; clear hK K)
                refine g_nil ?_
                have HK11 := Lib.hid (HK9.out.below ((Below.refl _ _).drew.trans ((hb10.mono (Nat.le_refl _)).trans (hb11.mono hb10.size))))
                clear hS hS10 hS11 hb10 hb11 hlv9 hrc9 hpl9 hbx9 haZ heqZ HK9
                go_wp2
                go_roundw
                case rel => exact ⟨i + 1, by omega, by omega, by go_num, v7, b1, rfl, rfl, HK11.out⟩
                case measure => simp [intOf]; omega
              · have hVd := hV9.below (Below.refl _ _).drew
                have hlv9 := live_any hVd.fs.disk
                rw [ho, Bool.not_true] at hlv9
                have hS : Lies w14.drew bx 0 (docF x9.boot x9.ses x9.hol) := lies_of (w := w14.drew) hxb9
                clear hV9 hM9 hxb9 ho hVd
                refine wp_region_g (fun w' => Lies w' bx 0 (docF x9.boot x9.ses x9.hol)) [(0, 1), (1, 2), (2, 1), (3, 1), (6, 0), (4, 2), (5, 2), (7, 1), (8, 1)] (by kernel_rfl) (by kernel_rfl) (by intro d v c a w h; cases d <;> exact h) ?_
                iterate 1 (refine g_take rfl rfl (fun K hK => ?_); go_simp; refine hK _ ?_; clear hK K)
                refine g_show' rfl rfl (fun K hK => ?_)
                go_simp
                refine hlv9.mono ?_
                rintro e wt ⟨rfl, hw⟩
                obtain rfl := hw.symm
                clear hw
                refine hK _ _ hS ?_
                clear hK K
                iterate 1 (refine g_take rfl rfl (fun K hK => ?_); go_simp; refine hK _ ?_; clear hK K)
                iterate 5 (refine g_offK rfl rfl (fun _ => hS) (fun K hK => ?_); go_simp; refine hK _ ?_; clear hK K)
                iterate 1 (refine g_take rfl rfl (fun K hK => ?_); go_simp; refine hK _ ?_; clear hK K)
                refine g_nil ?_
                have HK11 := Lib.hid (HK9.out.below (Below.refl _ _).drew)
                clear hS hlv9 HK9
                go_wp2
                go_roundw
                case rel => exact ⟨i + 1, by omega, by omega, by go_num, v7, b1, rfl, rfl, HK11.out⟩
                case measure => simp [intOf]; omega
          · have e3 : (kd == 3) = false := by simp [hk3]
            as_aux_lemma =>
            have HK9 : Hid (KSt w (i + 1) vc p bx bm boot w5) := Lib.hid (HK5.out.mono (Nat.le_succ i))
            clear HV5 HM HQ HLO HX5 HM5 HXT HMT HB05 HC5 hLO c2 c5' haO honO
            go_upto_region 39 with fail
            obtain ⟨⟨s9, g9, F9, FD9, l9, d9, r9, x9, m9, hV9, hM9, -, -, hxb9, -, -, -⟩, -, -, -, -, -⟩ := HK9.out
            rcases hM9.offs with ⟨ho, hI, rfl, -⟩ | ⟨ho, -⟩
            · have hVd := hV9.below (Below.refl _ _).drew
              have hlv9 := live_any hVd.fs.disk
              have hrc9 := vrecord_any hVd
              have hpl9 := fun w' => plain_any w' x9 hI.fits.len
              rw [ho, Bool.not_false] at hlv9
              have hbx9 : bx < w5.drew.heap.size := lt_of_block (w := w5.drew) hxb9
              have hS : Lies w5.drew bx 0 (docF x9.boot x9.ses x9.hol) := lies_of (w := w5.drew) hxb9
              have haZ := aggD (b := x9.boot) (s := x9.ses) (h := x9.hol)
              have heqZ : ∀ w, (Op.equalIn 10000 53 (.agg (docF x9.boot x9.ses x9.hol)) (.agg (docF x9.boot x9.ses x9.hol))).run Tryz.prog w = .ok true w := fun w => by rw [eqDoc, eqDocB_refl]
              unfold docC at hpl9
              clear hV9 hM9 hxb9 ho hVd hI
              refine wp_region_g (fun w' => Lies w' bx 0 (docF x9.boot x9.ses x9.hol)) [(0, 1), (1, 2), (2, 1), (3, 1), (6, 0), (4, 2), (5, 2), (7, 1), (8, 1)] (by kernel_rfl) (by kernel_rfl) (by intro d v c a w h; cases d <;> exact h) ?_
              iterate 1 (refine g_take rfl rfl (fun K hK => ?_); go_simp; refine hK _ ?_; clear hK K)
              refine g_show' rfl rfl (fun K hK => ?_)
              go_simp
              refine hlv9.mono ?_
              rintro e wt ⟨rfl, hw⟩
              obtain rfl := hw.symm
              clear hw
              refine hK _ _ hS ?_
              clear hK K
              iterate 2 (refine g_take rfl rfl (fun K hK => ?_); go_simp; refine hK _ ?_; clear hK K)
              refine g_read rfl rfl hS (fun w' h => exec_loadA haZ rfl h) ?_
              refine g_show' rfl rfl (fun K hK => ?_)
              go_simp
              refine hrc9.mono ?_
              rintro e w10 ⟨rfl, hb10⟩
              have hS10 : Lies w10 bx 0 (docF x9.boot x9.ses x9.hol) := fun j hj => (hb10.cell (p := ⟨bx, _, none⟩) hbx9).trans (hS j hj)
              refine hK _ _ hS10 ?_
              clear hK K
              refine g_show' rfl rfl (fun K hK => ?_)
              go_simp
              refine (hpl9 _).mono ?_
              rintro e w11 ⟨rfl, hb11⟩
              have hS11 : Lies w11 bx 0 (docF x9.boot x9.ses x9.hol) := fun j hj => (hb11.cell (p := ⟨bx, _, none⟩) (Nat.lt_of_lt_of_le hbx9 hb10.size)).trans (hS10 j hj)
              refine hK _ _ hS11 ?_
              clear hK K
              refine g_take rfl rfl (fun K hK => ⟨_, fun w' => exec_neqS hgtD heqZ rfl rfl w', ?_⟩)
              go_simp
              refine hK _ ?_
              clear hK K
              iterate 1 (refine g_take rfl rfl (fun K hK => ?_); go_simp; refine hK _ ?_; clear hK K)
              refine g_nil ?_
              have HK11 := Lib.hid (HK9.out.below ((Below.refl _ _).drew.trans ((hb10.mono (Nat.le_refl _)).trans (hb11.mono hb10.size))))
              clear hS hS10 hS11 hb10 hb11 hlv9 hrc9 hpl9 hbx9 haZ heqZ HK9
              go_wp2
              go_roundw
              case rel => exact ⟨i + 1, by omega, by omega, by go_num, vc, boot, rfl, rfl, HK11.out⟩
              case measure => simp [intOf]; omega
            · have hVd := hV9.below (Below.refl _ _).drew
              have hlv9 := live_any hVd.fs.disk
              rw [ho, Bool.not_true] at hlv9
              have hS : Lies w5.drew bx 0 (docF x9.boot x9.ses x9.hol) := lies_of (w := w5.drew) hxb9
              clear hV9 hM9 hxb9 ho hVd
              refine wp_region_g (fun w' => Lies w' bx 0 (docF x9.boot x9.ses x9.hol)) [(0, 1), (1, 2), (2, 1), (3, 1), (6, 0), (4, 2), (5, 2), (7, 1), (8, 1)] (by kernel_rfl) (by kernel_rfl) (by intro d v c a w h; cases d <;> exact h) ?_
              iterate 1 (refine g_take rfl rfl (fun K hK => ?_); go_simp; refine hK _ ?_; clear hK K)
              refine g_show' rfl rfl (fun K hK => ?_)
              go_simp
              refine hlv9.mono ?_
              rintro e wt ⟨rfl, hw⟩
              obtain rfl := hw.symm
              clear hw
              refine hK _ _ hS ?_
              clear hK K
              iterate 1 (refine g_take rfl rfl (fun K hK => ?_); go_simp; refine hK _ ?_; clear hK K)
              iterate 5 (refine g_offK rfl rfl (fun _ => hS) (fun K hK => ?_); go_simp; refine hK _ ?_; clear hK K)
              iterate 1 (refine g_take rfl rfl (fun K hK => ?_); go_simp; refine hK _ ?_; clear hK K)
              refine g_nil ?_
              have HK11 := Lib.hid (HK9.out.below (Below.refl _ _).drew)
              clear hS hlv9 HK9
              go_wp2
              go_roundw
              case rel => exact ⟨i + 1, by omega, by omega, by go_num, vc, boot, rfl, rfl, HK11.out⟩
              case measure => simp [intOf]; omega
    · have HB := Lib.hid hK.bel
      clear hK
      by_cases hil : i < ds.length
      · have hd1 : decide (i < ds.length) = true := by simp [hil]
        have hd2 : decide ((i : Int) < 25) = false := by simp; omega
        go_wp2_with (first
          | (go_at_call 11; refine (lives_any _).mono ?_; rintro e w8 ⟨rfl, hb8⟩; have HB8 := Lib.hid (HB.out.trans (hb8.mono HB.out.size)); clear hb8)
          | fail)
        go_ret
        exact ⟨rfl, HB8.out⟩
      · have hd1 : decide (i < ds.length) = false := by simp; omega
        go_wp2_with (first
          | (go_at_call 11; refine (lives_any _).mono ?_; rintro e w8 ⟨rfl, hb8⟩; have HB8 := Lib.hid (HB.out.trans (hb8.mono HB.out.size)); clear hb8)
          | fail)
        go_ret
        exact ⟨rfl, HB8.out⟩
end Go.Proofs.YtipbaajdnnddgaaGreat
