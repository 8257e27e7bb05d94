/- The document's Load, walked. -/
import Derived.Test.YtmakpbjknklpiaaGreatMgRpl29
import Derived.Test.YtmakpbjknklpiaaGreatMgRpl12
import Derived.Test.YtmakpbjknklpiaaGreatMgRpl11
import Derived.Test.YtmakpbjknklpiaaGreatMgRpl19
/- The document's heads: Sector, Save, walked. -/
namespace Go.Proofs.YtmakpbjknklpiaaGreat
open Go.RowKit Go.Tn Go.Tn.Bt Go.Tn.Lp Go.Tn.Dk
set_option maxRecDepth 20000 in
set_option maxHeartbeats 4000000 in
theorem hxsector_any (w : World) (ep g t f : Nat) (he : ep ≤ 16777215) (hg : g ≤ 1099511627775) (ht : t < 2 ^ 40) (hf : f < 2 ^ 24) : Calls Tryz.prog 96 #[.int .u64 ep, .agg #[.int .u64 g, .int .u64 t, .int .u64 f]] w
    fun e w' => ∃ v', e = .returned (.tuple #[v', .bool true]) ∧ LOut en8 1 5 w.heap.size w' v' (sealB (headPc ep ⟨g, t, f⟩)) ∧ Below w.heap.size w w' := by
  have hb1 : Below w.heap.size w (w.alloc (.cells #[.int .u64 g, .int .u64 t, .int .u64 f] 82)) := (Below.refl _ _).alloc (Nat.le_refl _) _
  have hH : (w.alloc (.cells #[.int .u64 g, .int .u64 t, .int .u64 f] 82)).heap[w.heap.size]? = some (.cells #[.int .u64 g, .int .u64 t, .int .u64 f] 82 (0, 0)) := heap_alloc_at
  have hz1 : w.heap.size < (w.alloc (.cells #[.int .u64 g, .int .u64 t, .int .u64 f] 82)).heap.size := by simp
  have h40 := fun W => yfits40 W t ht
  have h24 := fun W => yfits24 W f hf
  have ht64 : t < 2 ^ 64 := by omega
  have hf64 : f < 2 ^ 64 := by omega
  have q0 := cell_of (o := 0) hH rfl
  have q1 := cell_of (o := 1) hH rfl
  have q2 := cell_of (o := 2) hH rfl
  have HB1 := Lib.hid hb1
  have H40 := Lib.hid h40
  have H24 := Lib.hid h24
  have HE := Lib.hid he
  have HG := Lib.hid hg
  clear hb1 hH h40 h24 ht hf he hg
  generalize hw1 : w.alloc (.cells #[.int .u64 g, .int .u64 t, .int .u64 f] 82) = w1 at *
  go_enter Tryz.func96, Tryz.ntmps96
  go_upto_region 1 with fail
  simp only [hw1] at *
  clear hw1
  obtain ⟨px, hpx⟩ : ∃ px, w.heap.size = px := ⟨_, rfl⟩
  have HPX := Lib.hid hpx
  rw [hpx] at hz1 q0 q1 q2 ⊢
  clear hpx
  go_upto_region 3 with (first
    | (go_at_call 113; with_reducible refine (H40.out _).mono ?_; rintro e w2 ⟨rfl, hw⟩; obtain rfl := hw.symm; clear hw; go_frame)
    | (go_at_call 113; with_reducible refine (H24.out _).mono ?_; rintro e w2 ⟨rfl, hw⟩; obtain rfl := hw.symm; clear hw; go_frame)
    | fail)
  have hfr : ∀ W, Below w1.heap.size w1 W → W.cell? ⟨px, 1, none⟩ = some (.int .u64 (t : Nat)) ∧ W.cell? ⟨px, 2, none⟩ = some (.int .u64 (f : Nat)) := fun W hW => ⟨(hW.cell (p := ⟨px, 1, none⟩) hz1).trans q1, (hW.cell (p := ⟨px, 2, none⟩) hz1).trans q2⟩
  have hd0 : Below w1.heap.size w1 w1.drew := (Below.refl _ _).drew
  have hS := hfr _ hd0
  refine wp_region_x (fun w' => w'.cell? ⟨px, 1, none⟩ = some (.int .u64 (t : Nat)) ∧ w'.cell? ⟨px, 2, none⟩ = some (.int .u64 (f : Nat))) [(0, 1), (1, 0), (3, 1), (4, 0), (2, 2), (5, 2), (6, 2), (7, 1)] (by kernel_rfl) (by kernel_rfl) (by intro d v c a w h; cases d <;> exact h) ?_
  iterate 1 (refine x_take rfl (fun K hK => ?_); go_simp; refine hK _ ?_; clear hK K)
  refine x_read rfl hS (fun w' h => exec_load1 ⟨⟨_, Tryz.underlying49, rfl⟩⟩ rfl h.1) ?_
  iterate 1 (refine x_take rfl (fun K hK => ?_); go_simp; refine hK _ ?_; clear hK K)
  refine x_read rfl hS (fun w' h => exec_load1 ⟨⟨_, Tryz.underlying49, rfl⟩⟩ rfl h.2) ?_
  refine x_show' rfl (fun K hK => ?_)
  go_simp
  refine (rbits_any _ t 40 ht64 (by decide)).mono ?_
  rintro e w2 ⟨v2, rfl, hO2, hb2⟩
  obtain ⟨a2, n2, c2, rfl⟩ := LOut.shape hO2
  have hb12 : Below w1.heap.size w1 w2 := hd0.trans hb2
  refine hK _ _ (hfr _ hb12) ?_
  clear hK K hS
  refine x_show' rfl (fun K hK => ?_)
  go_simp
  refine (rbits_any _ f 24 hf64 (by decide)).mono ?_
  rintro e w3 ⟨v3, rfl, hO3, hb3⟩
  obtain ⟨a3, n3, c3, rfl⟩ := LOut.shape hO3
  have hb13 : Below w1.heap.size w1 w3 := hb12.trans (hb3.mono hb12.size)
  refine hK _ _ (hfr _ hb13) ?_
  clear hK K
  obtain ⟨v4, w4, hr, hO4, hm4, -⟩ := exec_appendMX (P := Tryz.prog) el8 (ty := 53) (hO2.below hb3) (hO3.sl el8.len) (by rw [b01_len, b01_len, bitsN_len, bitsN_len]; decide)
  obtain ⟨a4, n4, c4, rfl⟩ := LOut.shape hO4
  rw [← b01_append] at hO4
  have hb14 : Below w1.heap.size w1 w4 := hb13.trans (hm4.below hb13.size fun x hx e => by have := hO2.lo x e; have h9 : w1.heap.size ≤ x := this; omega)
  refine x_show rfl (hr _ _ _ _ _ _ _ rfl rfl) (hfr _ hb14) ?_
  iterate 1 (refine x_take rfl (fun K hK => ?_); go_simp; refine hK _ ?_; clear hK K)
  refine x_nil ?_
  have hby := rbytes_any w4.drew _ _ ((hO4.sl el8.len).below (Below.refl _ w4).drew) (by rw [List.length_append, bitsN_len, bitsN_len]; decide)
  have hpk : pack (bitsN t 40 ++ bitsN f 24) = headD t f := rfl
  rw [hpk] at hby
  have HB14 := Lib.hid hb14
  have hq0 : w4.drew.cell? ⟨px, 0, none⟩ = some (.int .u64 (g : Nat)) := (hb14.cell (p := ⟨px, 0, none⟩) hz1).trans q0
  clear hr hO4 hm4 hO2 hO3 hb2 hb3 hb12 hb13 hb14 hpk q0 q1 q2 hfr hd0
  go_upto_region 4 with fail
  have hpx4 : px < w4.heap.size := Nat.lt_of_lt_of_le hz1 HB14.out.size
  refine wp_region_x (fun w' => w'.cell? ⟨px, 0, none⟩ = some (.int .u64 (g : Nat))) [(0, 1), (1, 1), (2, 0), (3, 1), (4, 2), (5, 1), (6, 2), (7, 1), (8, 1), (9, 1), (10, 1), (11, 1)] (by kernel_rfl) (by kernel_rfl) (by intro d v c a w h; cases d <;> exact h) ?_
  iterate 2 (refine x_take rfl (fun K hK => ?_); go_simp; refine hK _ ?_; clear hK K)
  refine x_read rfl hq0 (fun w' h => exec_load1 ⟨⟨_, Tryz.underlying49, rfl⟩⟩ rfl h) ?_
  iterate 1 (refine x_take rfl (fun K hK => ?_); go_simp; refine hK _ ?_; clear hK K)
  refine x_show' rfl (fun K hK => ?_)
  go_simp
  refine hby.mono ?_
  rintro e w5 ⟨v5, rfl, hO5, hb5⟩
  obtain ⟨a5, n5, c5, rfl⟩ := LOut.shape hO5
  have hb45 : Below w4.heap.size w4 w5 := (Below.refl _ w4).drew.trans hb5
  have hq5 : w5.cell? ⟨px, 0, none⟩ = some (.int .u64 (g : Nat)) := (hb45.cell (p := ⟨px, 0, none⟩) hpx4).trans hq0
  refine hK _ _ hq5 ?_
  clear hK K
  refine x_take rfl (fun K hK => ⟨_, fun w' => exec_buildA rfl (builtXP ep g true true a5 n5 c5), ?_⟩)
  go_simp
  refine hK _ ?_
  clear hK K
  refine x_show' rfl (fun K hK => ?_)
  go_simp
  refine (yseal_any w5 ep g true true (headD t f) (.slice a5 n5 c5) (hO5.sl el8.len) (pack_lt _) HE.out HG.out (by rw [headD_len]; decide)).mono ?_
  rintro e w6 ⟨v6, rfl, hO6, hb6⟩
  obtain ⟨a6, n6, c6, rfl⟩ := LOut.shape hO6
  refine hK _ _ ((hb6.cell (p := ⟨px, 0, none⟩) (Nat.lt_of_lt_of_le hpx4 hb45.size)).trans hq5) ?_
  clear hK K
  iterate 5 (refine x_take rfl (fun K hK => ?_); go_simp; refine hK _ ?_; clear hK K)
  refine x_nil ?_
  have h14 := HB14.out
  have hbf : Below w1.heap.size w1 w6 := (h14.trans (hb45.mono h14.size)).trans (hb6.mono (Nat.le_trans h14.size hb45.size))
  have hws : w.heap.size ≤ w5.heap.size := Nat.le_trans HB1.out.size (Nat.le_trans h14.size hb45.size)
  have HO6 := Lib.hid (hO6.mono hws)
  have HBF := Lib.hid (HB1.out.trans (hbf.mono HB1.out.size))
  clear hO6 hbf hb6 hb45 hq5 hq0 hO5 hb5 hby h14
  go_wp2
  go_ret2
  have hx := HPX.out
  refine ⟨_, rfl, ?_, ?_⟩
  · rw [← hx]
    exact HO6.out
  · exact HBF.out
theorem aggXH (a b c : Int) : AggT Tryz.prog 82 (#[.int .u64 a, .int .u64 b, .int .u64 c] : Array Value).size := ⟨⟨_, Tryz.underlying82, rfl⟩, by kernel_rfl⟩
set_option maxRecDepth 20000 in
set_option maxHeartbeats 4000000 in
theorem hxsave_any {w : World} {S F : Nat → Prop} {p : Nat} {d : Dsk} (h : RDk w S F p d) (a ep g t f : Nat) (ha : a + 1 < d.L.length) (he : ep ≤ 16777215) (hg : g ≤ 1099511627775) (ht : t < 2 ^ 40) (hf : f < 2 ^ 24) (hq : d.Q.length < 1000000000) :
    Calls Tryz.prog 65 #[.pointer (some ⟨p, 0, none⟩), .int .i64 a, .int .u64 ep, .agg #[.int .u64 g, .int .u64 t, .int .u64 f]] w
    fun e w' => e = .returned (.int .i64 ((d.save a ep ⟨g, t, f⟩).2 : Nat)) ∧ ∃ S' F', RDk w' S' F' p (d.save a ep ⟨g, t, f⟩).1 ∧ RTo w w' S F S' F' := by
  have hsec := headPc_sec ep ⟨g, t, f⟩
  have hb1 : Below w.heap.size w (w.alloc (.cells #[.int .u64 g, .int .u64 t, .int .u64 f] 82)) := (Below.refl _ _).alloc (Nat.le_refl _) _
  have hH : (w.alloc (.cells #[.int .u64 g, .int .u64 t, .int .u64 f] 82)).heap[w.heap.size]? = some (.cells #[.int .u64 g, .int .u64 t, .int .u64 f] 82 (0, 0)) := heap_alloc_at
  have hhi := h.ok.hi
  have hse := fun W => hxsector_any W ep g t f he hg ht hf
  have hr1 : g % 2 ≤ 1 := by omega
  obtain ⟨r, hr⟩ : ∃ r, g % 2 = r := ⟨_, rfl⟩
  have hge : (g : Int) % 2 = ((r : Nat) : Int) := by omega
  have hgt : (g : Int).tmod 2 = ((r : Nat) : Int) := by rw [Int.tmod_eq_emod_of_nonneg (by omega)]; exact hge
  have hsv : d.save a ep ⟨g, t, f⟩ = if d.step.off = true then (d.step, 7) else ((d.write (a + r) (sealB (headPc ep ⟨g, t, f⟩))).flush, (d.write (a + r) (sealB (headPc ep ⟨g, t, f⟩))).dead) := by
    unfold Dsk.save
    rw [hr]
  rw [hr] at hr1
  have hri : (r : Int) ≤ 1 := by omega
  have hai : (a : Int) + 1 < (d.L.length : Int) := by omega
  have hL63 : (d.L.length : Int) ≤ 4096 := by omega
  have e0 : decide ((a : Int) < 0) = false := decide_eq_false (by omega)
  have e1 : decide ((d.L.length : Int) - 1 ≤ (a : Int)) = false := decide_eq_false (by omega)
  have HSV := Lib.hid hsv
  have HSE := Lib.hid hse
  have HSEC := Lib.hid hsec
  have HD0 := Lib.hid h
  have HB1 := Lib.hid hb1
  have HH := Lib.hid hH
  have HQ := Lib.hid hq
  have HRA : Hid (a + r < d.L.length) := Lib.hid (by omega)
  clear hsv hse hsec h hb1 hH hr he hg ht hf hq ha
  generalize hw1 : w.alloc (.cells #[.int .u64 g, .int .u64 t, .int .u64 f] 82) = w1 at *
  go_enter Tryz.func65, Tryz.ntmps65
  go_upto_region 1 with fail
  simp only [hw1] at *
  clear hw1
  obtain ⟨px, hpx⟩ : ∃ px, w.heap.size = px := ⟨_, rfl⟩
  have HPX := Lib.hid hpx
  rw [hpx] at HH ⊢
  clear hpx
  go_upto_region 2 with (first
    | ((with_reducible refine wpList_loadA (aggXH _ _ _) (lies_of HH.out) ?_ ?_); rfl; go_frame)
    | (go_at_call 96; refine (HSE.out _).mono ?_; rintro e w2 ⟨v2, rfl, hO2, hb2⟩; obtain ⟨a2, n2, c2, rfl⟩ := LOut.shape hO2; have HO2 := Lib.hid hO2; have HB2 := Lib.hid hb2; clear hO2 hb2; go_frame)
    | fail)
  have hb02 : Below w.heap.size w w2 := HB1.out.trans (HB2.out.mono HB1.out.size)
  have hD2 := HD0.out.below hb02
  obtain ⟨lv, qv, xs, qs, h1, h2, h3, -⟩ := hD2.ex
  have hxl : xs.length = d.L.length := by rw [← h2]; simp
  obtain ⟨la, lc, rfl, l1, l2, -⟩ := h3.sl elB.len
  rw [hxl] at h1
  have c0 := cell_of (o := 0) h1 rfl
  have c3 := cell_of (o := 0) ((HB2.out.block _ (lt_of_block HH.out)).trans HH.out) rfl
  have hown : ∀ k, (Value.slice a2 n2 c2).ownBlock = some k → w.heap.size ≤ k := fun k hk => Nat.le_trans HB1.out.size (HO2.out.lo k hk)
  have hdat : Dat w2 S (a2, n2, c2) (sealB (headPc ep ⟨g, t, f⟩)) := ⟨HO2.out.sl el8.len, fun k hk => ⟨fun e => by have := HD0.out.lt k e; have := hown k hk; omega, HO2.out.lt hk⟩⟩
  have hwr := xwrite_any hD2 (a + r) HRA.out (a2, n2, c2) _ hdat HSEC.out HQ.out
  rw [show ((a + r : Nat) : Int) = (a : Int) + (r : Int) by omega] at hwr
  have hwa : IntKind.i64.wrap ((a : Int) + (r : Int)) = (a : Int) + (r : Int) := IntWalk.i64_in _ (by omega)
  have HWR := Lib.hid hwr
  have HB02 := Lib.hid hb02
  clear h1 h2 h3 hxl l1 l2 hD2 hown hdat hwr hb02 HH HO2
  by_cases hoff : d.step.off = true
  · have hdead : d.dead = 7 := by unfold Dsk.dead; rw [if_pos hoff]
    have hw9 : d.write (a + r) (sealB (headPc ep ⟨g, t, f⟩)) = d.step := by unfold Dsk.write; rw [if_pos hoff]
    have hwr := HWR.out
    rw [hdead, hw9] at hwr
    have HS := Lib.hid HSV.out
    have hs := HSV.out
    rw [if_pos hoff] at hs
    have HS := Lib.hid hs
    clear hdead hw9 HWR HSV hs hoff
    go_wp2_with (first
      | (go_at_call 60; refine hwr.mono ?_; rintro e w5 ⟨rfl, S5, F5, hD5, hT5⟩; have HD5 := Lib.hid hD5; have HT5 := Lib.hid hT5; clear hD5 hT5; go_frame)
      | fail)
    go_ret
    rw [HS.out]
    exact ⟨rfl, _, _, HD5.out, RTo.before HB02.out HT5.out⟩
  · have hoff : d.step.off = false := by simpa using hoff
    have hdead : d.dead = 0 := by unfold Dsk.dead; rw [if_neg (by rw [hoff]; decide)]
    have hwr := HWR.out
    rw [hdead] at hwr
    have hs := HSV.out
    rw [if_neg (by rw [hoff]; decide)] at hs
    have HS := Lib.hid hs
    clear hdead HWR HSV hs hoff
    go_upto_region 7 with (first
      | (go_at_call 60; refine hwr.mono ?_; rintro e w5 ⟨rfl, S5, F5, hD5, hT5⟩; have HD5 := Lib.hid hD5; have HT5 := Lib.hid hT5; clear hD5 hT5; go_frame)
      | fail)
    have hfl := xflush_any HD5.out
    clear hwr
    go_wp2_with (first
      | (go_at_call 62; refine hfl.mono ?_; rintro e w6 ⟨rfl, hD6, hm6⟩; have HD6 := Lib.hid hD6; have HM6 := Lib.hid hm6; clear hD6 hm6; go_frame)
      | fail)
    go_ret
    rw [HS.out]
    exact ⟨rfl, _, _, HD6.out, (RTo.before HB02.out HT5.out).trans (RTo.of_mod _ HM6.out)⟩
end Go.Proofs.YtmakpbjknklpiaaGreat

/- The document's heads: one, Load, walked. -/
namespace Go.Tn.Bt
open Go.Tn.Lp
theorem natOf_unpack : ∀ (n : Nat) (b : List Nat), b.length = n → (∀ x ∈ b, x < 256) → natOf (unpack b) = numOf b
  | 0, b, h, _ => by
    rw [List.eq_nil_of_length_eq_zero h]
    rfl
  | n + 1, b, h, hb => by
    obtain ⟨c, hx⟩ : ∃ c, b[n]? = some c := ⟨_, List.getElem?_eq_getElem (by omega)⟩
    have e : b = b.take n ++ [c] := by
      conv => lhs; rw [← List.take_of_length_le (l := b) (i := n + 1) (by omega), List.take_add_one, hx]
      rfl
    have hc : c < 256 := hb c (List.mem_of_getElem? hx)
    have h1 := natOf_unpack n (b.take n) (by rw [List.length_take]; omega) fun x hx => hb x (List.mem_of_mem_take hx)
    rw [e, unpack_append, natOf_append, numOf_snoc, h1]
    have hu : unpack [c] = bitsN c 8 := by simp [unpack]
    rw [hu, bitsN_len, natOf_bitsN, Nat.mod_eq_of_lt (show c < 2 ^ 8 from hc)]
theorem unpack_take5 {b : List Nat} (h : b.length = 8) : (unpack b).take 40 = unpack (b.take 5) ∧ ((unpack b).drop 40).take 24 = unpack (b.drop 5) := by
  have h1 := unpack_drop 5 b
  have h2 : unpack b = unpack (b.take 5) ++ unpack (b.drop 5) := by rw [← unpack_append, List.take_append_drop]
  have h3 : (unpack (b.take 5)).length = 40 := by rw [unpack_len, List.length_take]; omega
  constructor
  · rw [h2, List.take_append_of_le_length (by omega), List.take_of_length_le (by omega)]
  · rw [h1, List.take_of_length_le (by rw [unpack_len, List.length_drop]; omega)]
end Go.Tn.Bt
namespace Go.Proofs.YtmakpbjknklpiaaGreat
open Go.RowKit Go.Tn Go.Tn.Bt Go.Tn.Lp Go.Tn.Dk
theorem oneXH (a b c : Int) : (#[.int .u64 a, .int .u64 b, .int .u64 c] : Array Value).all (·.oneCell') = true := by simp [Value.oneCell']
theorem builtXH (a b c : Int) : Tryz.prog.built 82 [(0, .int .u64 a), (1, .int .u64 b), (2, .int .u64 c)] = some #[.int .u64 a, .int .u64 b, .int .u64 c] := by kernel_rfl
/-- What one answers: in memory. -/
theorem hxone_none (w : World) (v : Value) (bs : List Nat) (h : LSl en8 1 w v bs) (hs : secB bs) (i : Nat) (hu : unsealB bs = none) : Calls Tryz.prog 75 #[v, .int .u64 i] w
    fun e w' => e = .returned (hreadV (hdB bs i)) ∧ Below w.heap.size w w' := by
  have hb1 : Below w.heap.size w (w.alloc (.cells #[.int .u64 0, .int .u64 0, .int .u64 0] 82)) := (Below.refl _ _).alloc (Nat.le_refl _) _
  have hH : (w.alloc (.cells #[.int .u64 0, .int .u64 0, .int .u64 0] 82)).heap[w.heap.size]? = some (.cells #[.int .u64 0, .int .u64 0, .int .u64 0] 82 (0, 0)) := heap_alloc_at
  have hun := yunseal_any _ v bs (h.below hb1) hs
  unfold UnR at hun
  rw [hu] at hun
  have hhd : hdB bs i = none := by unfold hdB; rw [hu]
  rw [hhd]
  obtain ⟨a0, n0, c0, rfl⟩ : ∃ a n c, v = .slice a n c := by
    obtain ⟨ao, cap, rfl, -⟩ := h
    exact ⟨_, _, _, rfl⟩
  have HUN := Lib.hid hun
  have HB1 := Lib.hid hb1
  have HH := Lib.hid hH
  clear hun hb1 hH h hs hu hhd
  generalize hw1 : w.alloc (.cells #[.int .u64 0, .int .u64 0, .int .u64 0] 82) = w1 at *
  go_enter Tryz.func75, Tryz.ntmps75
  go_upto_region 1 with fail
  simp only [hw1] at *
  clear hw1
  obtain ⟨px, hpx⟩ : ∃ px, w.heap.size = px := ⟨_, rfl⟩
  have HPX := Lib.hid hpx
  rw [hpx] at HH ⊢
  clear hpx
  go_wp2_with (first
    | (go_at_call 76; refine HUN.out.mono ?_; rintro e w5 ⟨hb5, rfl⟩; have HB5 := Lib.hid hb5; have HP5 := Lib.hid ((((Below.refl w5.heap.size w5).alloc (Nat.le_refl _) (.cells #[.int .u64 0, .int .u64 0, .bool false, .bool false, .slice none 0 0] 93)).block px (Nat.lt_of_lt_of_le (lt_of_block HH.out) hb5.size)).trans ((hb5.block _ (lt_of_block HH.out)).trans HH.out)); clear hb5; go_frame)
    | ((with_reducible refine wpList_storeA_new (aggXP _ _ _ _ _) rfl (oneXP _ _ _ _ _ _ _) ?_ ?_ ?_); rfl; rfl; go_frame)
    | ((with_reducible refine wpList_storeB (aggXH 0 0 0) ?_ ?_ HP5.out rfl (oneXH _ _ _) ?_); rfl; rfl; (intro w7 hh7 hm7; have HH7 := Lib.hid hh7; have HM7 := Lib.hid hm7; clear hh7 hm7); go_frame)
    | fail)
  (try simp only [Exit.inBlock, Exit.then])
  refine bodyPost_ret (results_cellT rfl _ rfl (aggXH _ _ _) (lies_of HH7.out)) rfl ?_
  have hx := HPX.out
  have s1 := HB1.out.size
  have hb5 : Below w.heap.size w (w5.alloc (.cells #[.int .u64 0, .int .u64 0, .bool false, .bool false, .slice none 0 0] 93)) := (HB1.out.trans (HB5.out.mono s1)).alloc (Nat.le_trans s1 HB5.out.size) _
  exact ⟨rfl, hb5.trans (HM7.out.below hb5.size fun x hx1 e => by omega)⟩
set_option maxRecDepth 20000 in
set_option maxHeartbeats 4000000 in
theorem hxone_some (w : World) (v : Value) (bs : List Nat) (h : LSl en8 1 w v bs) (hs : secB bs) (i : Nat) (hi : i ≤ 1) (ep ct : Nat) (fi la : Bool) (da : List Nat) (hu : unsealB bs = some ⟨ep, ct, fi, la, da⟩) (hda : ∀ x ∈ da, x < 256) (hct : ct ≤ 1099511627775) : Calls Tryz.prog 75 #[v, .int .u64 i] w
    fun e w' => e = .returned (hreadV (hdB bs i)) ∧ Below w.heap.size w w' := by
  have hb1 : Below w.heap.size w (w.alloc (.cells #[.int .u64 0, .int .u64 0, .int .u64 0] 82)) := (Below.refl _ _).alloc (Nat.le_refl _) _
  have hH : (w.alloc (.cells #[.int .u64 0, .int .u64 0, .int .u64 0] 82)).heap[w.heap.size]? = some (.cells #[.int .u64 0, .int .u64 0, .int .u64 0] 82 (0, 0)) := heap_alloc_at
  have hun := yunseal_any _ v bs (h.below hb1) hs
  unfold UnR at hun
  rw [hu] at hun
  simp only [pcCs] at hun
  have hhd : hdB bs i = headP ⟨ep, ct, fi, la, da⟩ i := by unfold hdB; rw [hu]
  rw [hhd]
  obtain ⟨a0, n0, c0, rfl⟩ : ∃ a n c, v = .slice a n c := by
    obtain ⟨ao, cap, rfl, -⟩ := h
    exact ⟨_, _, _, rfl⟩
  obtain ⟨bad, hbad⟩ : ∃ bad, decide (¬ (fi = true ∧ la = true ∧ ct % 2 = i ∧ da.length = 8)) = bad := ⟨_, rfl⟩
  have hii : (i : Int) ≤ 1 := by omega
  have HBD := Lib.hid hbad
  have HUN := Lib.hid hun
  have HB1 := Lib.hid hb1
  have HH := Lib.hid hH
  have HDA := Lib.hid hda
  have HCT := Lib.hid hct
  clear hun hb1 hH h hs hu hhd hbad hda hct
  generalize hw1 : w.alloc (.cells #[.int .u64 0, .int .u64 0, .int .u64 0] 82) = w1 at *
  go_enter Tryz.func75, Tryz.ntmps75
  go_upto_region 1 with fail
  simp only [hw1] at *
  clear hw1
  obtain ⟨px, hpx⟩ : ∃ px, w.heap.size = px := ⟨_, rfl⟩
  have HPX := Lib.hid hpx
  rw [hpx] at HH ⊢
  clear hpx
  go_upto_region 2 with (first
    | (go_at_call 76; refine HUN.out.mono ?_; rintro e w5 ⟨hb5, v5, rfl, hO5⟩; obtain ⟨a5, n5, c5, rfl⟩ := LOut.shape hO5; have HB5 := Lib.hid hb5; have HO5 := Lib.hid hO5; clear hb5 hO5; go_frame)
    | ((with_reducible refine wpList_storeA_new (aggXP _ _ _ _ _) rfl (oneXP _ _ _ _ _ _ _) ?_ ?_ ?_); rfl; rfl; go_frame)
    | fail)
  have hba : Below w5.heap.size w5 (w5.alloc (.cells #[.int .u64 (ep : Nat), .int .u64 (ct : Nat), .bool fi, .bool la, .slice a5 n5 c5] 93)) := (Below.refl _ _).alloc (Nat.le_refl _) _
  have hX : (w5.alloc (.cells #[.int .u64 (ep : Nat), .int .u64 (ct : Nat), .bool fi, .bool la, .slice a5 n5 c5] 93)).heap[w5.heap.size]? = some (.cells #[.int .u64 (ep : Nat), .int .u64 (ct : Nat), .bool fi, .bool la, .slice a5 n5 c5] 93 (0, 0)) := heap_alloc_at
  have hds := (HO5.out.sl el8.len).below hba
  obtain ⟨ao, cap, hvv, d1, d2, d3⟩ := id hds
  obtain ⟨rfl, rfl, rfl⟩ : a5 = ao ∧ n5 = da.length ∧ c5 = cap := by simpa using hvv
  have hp5 := (HB5.out.block px (lt_of_block HH.out)).trans HH.out
  have hp6 := (hba.block px (lt_of_block hp5)).trans hp5
  have s1 := HB1.out.size
  have hb6 : Below w.heap.size w (w5.alloc (.cells #[.int .u64 (ep : Nat), .int .u64 (ct : Nat), .bool fi, .bool la, .slice a5 da.length c5] 93)) := (HB1.out.trans (HB5.out.mono s1)).alloc (Nat.le_trans s1 HB5.out.size) _
  have hd63 : (da.length : Int) ≤ 9223372036854775807 := by unfold maxLen at d2; omega
  obtain ⟨xb, hxb⟩ : ∃ xb, w5.heap.size = xb := ⟨_, rfl⟩
  have hpw : px < xb := by rw [← hxb]; exact lt_of_block hp5
  rw [hxb] at hX ⊢
  have z1 := cell_of (o := 1) hX rfl
  have z2 := cell_of (o := 2) hX rfl
  have z3 := cell_of (o := 3) hX rfl
  have z4 := cell_of (o := 4) hX rfl
  have HDS := Lib.hid hds
  have HP6 := Lib.hid hp6
  have HB6 := Lib.hid hb6
  have hxl := lt_of_block hX
  clear hxb hba hX hds hvv d3 hp5 hp6 hb6 HO5 HB5 HUN HB1 HH s1
  generalize w5.alloc _ = w6 at *
  obtain ⟨r, hr⟩ : ∃ r, ct % 2 = r := ⟨_, rfl⟩
  have hge : (ct : Int) % 2 = ((r : Nat) : Int) := by omega
  have hgt : (ct : Int).tmod 2 = ((r : Nat) : Int) := by rw [Int.tmod_eq_emod_of_nonneg (by omega)]; exact hge
  have HR := Lib.hid hr
  clear hr
  go_cut [37] (fun s wx => s = .bool bad ∧ wx = w6)
  case first =>
    have hbd := HBD.out
    rw [HR.out] at hbd
    by_cases hri : r = i
    · have hn : (((r : Nat) : Int) != ((i : Nat) : Int)) = false := by rw [bne_eq_false_iff_eq]; omega
      by_cases h8 : da.length = 8
      · have hn8 : (((da.length : Nat) : Int) != 8) = false := by rw [bne_eq_false_iff_eq]; omega
        have hfin : bad = !(fi && la) := by rw [← hbd]; cases fi <;> cases la <;> simp [hri, h8]
        clear hbd h8 hri
        cases fi <;> cases la <;> (subst hfin; go_wp2; go_meet; case rel => exact ⟨rfl, rfl⟩)
      · have hn8 : (((da.length : Nat) : Int) != 8) = true := by rw [bne_iff_ne]; omega
        have hfin : bad = true := by rw [← hbd]; simp [h8]
        subst hfin
        clear hbd h8 hri
        cases fi <;> cases la <;> (go_wp2; go_meet; case rel => exact ⟨rfl, rfl⟩)
    · have hn : (((r : Nat) : Int) != ((i : Nat) : Int)) = true := by rw [bne_iff_ne]; omega
      have hfin : bad = true := by rw [← hbd]; simp [hri]
      subst hfin
      clear hbd hri
      cases fi <;> cases la <;> (go_wp2; go_meet; case rel => exact ⟨rfl, rfl⟩)
  case rest =>
  obtain ⟨rfl, hw⟩ := hcut
  obtain rfl := hw.symm
  clear hw
  cases bad with
  | true =>
    have hno : headP ⟨ep, ct, fi, la, da⟩ i = none := by
      unfold headP
      exact if_neg (of_decide_eq_true HBD.out)
    have HNO := Lib.hid hno
    clear hno z1 z2 z3 z4
    go_wp2_with (first
      | ((with_reducible refine wpList_storeB (aggXH 0 0 0) ?_ ?_ HP6.out rfl (oneXH _ _ _) ?_); rfl; rfl; (intro w7 hh7 hm7; have HH7 := Lib.hid hh7; have HM7 := Lib.hid hm7; clear hh7 hm7); go_frame)
      | fail)
    (try simp only [Exit.inBlock, Exit.then])
    refine bodyPost_ret (results_cellT rfl _ rfl (aggXH _ _ _) (lies_of HH7.out)) rfl ?_
    have hx := HPX.out
    rw [HNO.out]
    exact ⟨rfl, HB6.out.trans (HM7.out.below HB6.out.size fun x hx1 e => by omega)⟩
  | false =>
    have hC : fi = true ∧ la = true ∧ ct % 2 = i ∧ da.length = 8 := Decidable.of_not_not (of_decide_eq_false HBD.out)
    have hyes : headP ⟨ep, ct, fi, la, da⟩ i = some ⟨ct, numOf (da.take 5), numOf (da.drop 5)⟩ := by
      unfold headP
      obtain ⟨u1, u2⟩ := unpack_take5 hC.2.2.2
      rw [if_pos hC, u1, u2, natOf_unpack 5 _ (by rw [List.length_take, hC.2.2.2]; rfl) fun x hx => HDA.out x (List.mem_of_mem_take hx), natOf_unpack 3 _ (by rw [List.length_drop, hC.2.2.2]) fun x hx => HDA.out x (List.mem_of_mem_drop hx)]
    have hl8 := hC.2.2.2
    rw [hl8] at HDS z4 d1
    have HYES := Lib.hid hyes
    have HL8 := Lib.hid hl8
    clear hyes hC hl8
    have hv5 := fun W (hW : LSl en8 1 W (.slice a5 8 c5) da) => yvalue_any W (.slice a5 5 c5) (da.take 5) (hW.take (by rw [HL8.out]; decide)) (fun x hx => HDA.out x (List.mem_of_mem_take hx)) (by rw [List.length_take]; omega)
    obtain ⟨ad, had⟩ : ∃ ad, (if c5 = 5 then a5 else a5.map (·.add (5 * 1))) = ad := ⟨_, rfl⟩
    have hv3 := fun W (hW : LSl en8 1 W (.slice a5 8 c5) da) => yvalue_any W (.slice ad 3 (c5 - 5)) (da.drop 5) (hW.drop2 (i := 5) (by rw [HL8.out]; decide) had (by decide) rfl) (fun x hx => HDA.out x (List.mem_of_mem_drop hx)) (by rw [List.length_drop, HL8.out]; decide)
    obtain ⟨T, hT⟩ : ∃ T, numOf (da.take 5) = T := ⟨_, rfl⟩
    obtain ⟨G, hG⟩ : ∃ G, numOf (da.drop 5) = G := ⟨_, rfl⟩
    simp only [hT] at hv5
    simp only [hG] at hv3
    have hye := HYES.out
    rw [hT, hG] at hye
    have HYE := Lib.hid hye
    have HV5 := Lib.hid (hv5 _ (HDS.out.below (Below.refl _ w6).drew))
    have HV3 := Lib.hid (hv3 _ (HDS.out.below (Below.refl _ w6).drew))
    have HAD := Lib.hid had
    clear hv5 hv3 hye had hT hG HYES
    have hS : w6.drew.cell? ⟨xb, 1, none⟩ = some (.int .u64 (ct : Nat)) ∧ w6.drew.cell? ⟨xb, 4, none⟩ = some (.slice a5 8 c5) := ⟨z1, z4⟩
    have hp6 : w6.drew.heap[px]? = some (.cells #[.int .u64 0, .int .u64 0, .int .u64 0] 82 (0, 0)) := HP6.out
    have h5c : 5 ≤ c5 := by omega
    obtain ⟨w9, hst, hh9, hm9⟩ := exec_storeB (ρ := fun _ => undef) (ty := 0) (pos := "") (after := #[]) (x := .tmp 0) (y := .tmp 0) (aggXH (ct : Nat) (T : Nat) (G : Nat)) hp6 rfl (oneXH _ _ _)
    clear z1 z2 z3 z4
    go_upto_region 4 with fail
    refine wp_region_x (fun w' => w'.cell? ⟨xb, 1, none⟩ = some (.int .u64 (ct : Nat)) ∧ w'.cell? ⟨xb, 4, none⟩ = some (.slice a5 8 c5)) [(0, 1), (1, 0), (2, 1), (3, 0), (4, 1), (6, 1), (7, 0), (8, 1), (5, 2), (9, 2), (10, 1), (11, 3), (12, 1)] (by kernel_rfl) (by kernel_rfl) (by intro d v c a w h; cases d <;> exact h) ?_
    iterate 1 (refine x_take rfl (fun K hK => ?_); go_simp; refine hK _ ?_; clear hK K)
    refine x_read rfl hS (fun w' h => exec_load1 ⟨⟨_, Tryz.underlying49, rfl⟩⟩ rfl h.1) ?_
    iterate 1 (refine x_take rfl (fun K hK => ?_); go_simp; refine hK _ ?_; clear hK K)
    refine x_read rfl hS (fun w' h => exec_load1 ⟨⟨_, Tryz.underlying53, rfl⟩⟩ rfl h.2) ?_
    refine x_take rfl (fun K hK => ⟨_, fun w' => exec_sliceHi (i := 5) Tryz.underlying53 size8 h5c rfl rfl, ?_⟩)
    go_simp
    refine hK _ ?_
    clear hK K
    iterate 1 (refine x_take rfl (fun K hK => ?_); go_simp; refine hK _ ?_; clear hK K)
    refine x_read rfl hS (fun w' h => exec_load1 ⟨⟨_, Tryz.underlying53, rfl⟩⟩ rfl h.2) ?_
    refine x_take rfl (fun K hK => ⟨_, fun w' => exec_sliceLo2 (i := 5) Tryz.underlying53 size8 (by decide) HAD.out rfl rfl rfl rfl, ?_⟩)
    go_simp
    refine hK _ ?_
    clear hK K
    refine x_show' rfl (fun K hK => ?_)
    go_simp
    refine HV5.out.mono ?_
    rintro e w7 ⟨rfl, hw⟩
    obtain rfl := hw.symm
    refine hK _ _ hS ?_
    clear hK K hw
    refine x_show' rfl (fun K hK => ?_)
    go_simp
    refine HV3.out.mono ?_
    rintro e w7 ⟨rfl, hw⟩
    obtain rfl := hw.symm
    refine hK _ _ hS ?_
    clear hK K hw
    refine x_take rfl (fun K hK => ⟨_, fun w' => exec_buildA rfl (builtXH (ct : Nat) (T : Nat) (G : Nat)), ?_⟩)
    go_simp
    refine hK _ ?_
    clear hK K
    refine x_skip rfl (hst _ _ _ _ _ _ _ _ rfl rfl) ?_
    iterate 1 (refine x_take rfl (fun K hK => ?_); go_simp; refine hK _ ?_; clear hK K)
    refine x_nil ?_
    have HH9 := Lib.hid hh9
    have HM9 := Lib.hid hm9
    clear hst hh9 hm9 hS hp6
    go_wp2
    (try simp only [Exit.inBlock, Exit.then])
    refine bodyPost_ret (results_cellT rfl _ rfl (aggXH _ _ _) (lies_of HH9.out)) rfl ?_
    have hx := HPX.out
    rw [HYE.out]
    exact ⟨rfl, HB6.out.drew.trans (HM9.out.below (show w.heap.size ≤ w6.drew.heap.size from HB6.out.size) fun x hx1 e => by omega)⟩
theorem hxone_any (w : World) (v : Value) (bs : List Nat) (h : LSl en8 1 w v bs) (hs : secB bs) (i : Nat) (hi : i ≤ 1) : Calls Tryz.prog 75 #[v, .int .u64 i] w
    fun e w' => e = .returned (hreadV (hdB bs i)) ∧ Below w.heap.size w w' := by
  cases hu : unsealB bs with
  | none => exact hxone_none w v bs h hs i hu
  | some p =>
    obtain ⟨hok, -, -, -⟩ := unseal_ends hs.2 hu
    obtain ⟨ep, ct, fi, la, da⟩ := p
    refine hxone_some w v bs h hs i hi ep ct fi la da hu ?_ hok.2.1
    have hp : pieceOf bs = ⟨ep, ct, fi, la, da⟩ := by
      unfold unsealB at hu
      split at hu
      · exact Option.some.inj hu
      · cases hu
    have hd : da = (pieceOf bs).da := by rw [hp]
    rw [hd]
    exact fun x hx => hs.2 x (List.mem_of_mem_drop (List.mem_of_mem_take hx))
end Go.Proofs.YtmakpbjknklpiaaGreat

/- The document's Load, walked. -/
namespace Go.Proofs.YtmakpbjknklpiaaGreat
open Go.RowKit Go.Tn Go.Tn.Bt Go.Tn.Lp Go.Tn.Dk
/-- Which of two heads Load answers. -/
theorem newer_eq (A B : Option Hd) : newer A B = if B.isSome = true ∧ (A.isSome = false ∨ (A.getD hd0).gen < (B.getD hd0).gen) then B else A := by
  cases B with
  | none => cases A <;> rfl
  | some y =>
    cases A with
    | none => simp [newer]
    | some x => simp [newer]
set_option maxRecDepth 20000 in
set_option maxHeartbeats 4000000 in
theorem hxload_any {w : World} {S F : Nat → Prop} {p : Nat} {d : Dsk} (h : RDk w S F p d) (a : Nat) (ha : a + 1 < d.L.length) : Calls Tryz.prog 39 #[.pointer (some ⟨p, 0, none⟩), .int .i64 a] w
    fun e w' => e = .returned (hloadV (d.head a)) ∧ Below w.heap.size w w' := by
  have hb1 : Below w.heap.size w (w.alloc (.cells #[.int .u64 0, .int .u64 0, .int .u64 0] 82)) := (Below.refl _ _).alloc (Nat.le_refl _) _
  have hH : (w.alloc (.cells #[.int .u64 0, .int .u64 0, .int .u64 0] 82)).heap[w.heap.size]? = some (.cells #[.int .u64 0, .int .u64 0, .int .u64 0] 82 (0, 0)) := heap_alloc_at
  have hD1 := h.below hb1
  have hhi := h.ok.hi
  have hs0 := h.ok.get (i := a) (by omega)
  have hs1 := h.ok.get (i := a + 1) ha
  have his0 := xis_any hD1 a (by omega)
  obtain ⟨lv, qv, xs, qs, h1, h2, h3, -⟩ := hD1.ex
  have hxl : xs.length = d.L.length := by rw [← h2]; simp
  obtain ⟨la, lc, rfl, l1, l2, -⟩ := h3.sl elB.len
  rw [hxl] at h1
  have c0 := cell_of (o := 0) h1 rfl
  have hai : (a : Int) + 1 < (d.L.length : Int) := by omega
  have hL63 : (d.L.length : Int) ≤ 4096 := by omega
  have e0 : decide ((a : Int) < 0) = false := decide_eq_false (by omega)
  have e1 : decide ((d.L.length : Int) - 1 ≤ (a : Int)) = false := decide_eq_false (by omega)
  obtain ⟨A, hA⟩ : ∃ A, hdB (d.get a) 0 = A := ⟨_, rfl⟩
  obtain ⟨B, hB⟩ : ∃ B, hdB (d.get (a + 1)) 1 = B := ⟨_, rfl⟩
  have hhd : d.head a = if B.isSome = true ∧ (A.isSome = false ∨ (A.getD hd0).gen < (B.getD hd0).gen) then B else A := by
    unfold Dsk.head
    rw [hA, hB, newer_eq]
  obtain ⟨⟨g1, t1, f1⟩, hA1⟩ : ∃ x, A.getD hd0 = x := ⟨_, rfl⟩
  obtain ⟨⟨g2, t2, f2⟩, hB1⟩ : ∃ x, B.getD hd0 = x := ⟨_, rfl⟩
  obtain ⟨x1, hA2⟩ : ∃ x, A.isSome = x := ⟨_, rfl⟩
  obtain ⟨x2, hB2⟩ : ∃ x, B.isSome = x := ⟨_, rfl⟩
  rw [hA1, hA2, hB1, hB2] at hhd
  have hrA : hreadV A = .tuple #[.agg #[.int .u64 (g1 : Nat), .int .u64 (t1 : Nat), .int .u64 (f1 : Nat)], .bool x1] := by unfold hreadV; rw [hA1, hA2]; rfl
  have hrB : hreadV B = .tuple #[.agg #[.int .u64 (g2 : Nat), .int .u64 (t2 : Nat), .int .u64 (f2 : Nat)], .bool x2] := by unfold hreadV; rw [hB1, hB2]; rfl
  have hlv : hloadV (d.head a) = if x2 = true ∧ (x1 = false ∨ g1 < g2) then .tuple #[.agg #[.int .u64 (g2 : Nat), .int .u64 (t2 : Nat), .int .u64 (f2 : Nat)], .bool true, .int .i64 0] else .tuple #[.agg #[.int .u64 (g1 : Nat), .int .u64 (t1 : Nat), .int .u64 (f1 : Nat)], .bool x1, .int .i64 0] := by
    rw [hhd]
    by_cases hc : x2 = true ∧ (x1 = false ∨ g1 < g2)
    · rw [if_pos hc, if_pos hc]
      unfold hloadV
      rw [hB1, hB2, hc.1]
      rfl
    · rw [if_neg hc, if_neg hc]
      unfold hloadV
      rw [hA1, hA2]
      rfl
  have hon := fun W v (hv : LSl en8 1 W v (d.get a)) => hxone_any W v _ hv hs0 0 (by decide)
  have hon1 := fun W v (hv : LSl en8 1 W v (d.get (a + 1))) => hxone_any W v _ hv hs1 1 (by decide)
  simp only [hA, hrA] at hon
  simp only [hB, hrB] at hon1
  have HLV := Lib.hid hlv
  have HON := Lib.hid hon
  have HON1 := Lib.hid hon1
  have HH := Lib.hid hH
  have HB1 := Lib.hid hb1
  have HD1 := Lib.hid hD1
  clear hlv hhd hrA hrB hon hon1 hA hB hA1 hA2 hB1 hB2 hH hb1 hD1 h1 h2 h3 hxl l1 l2 h hs0 hs1 ha
  generalize hw1 : w.alloc (.cells #[.int .u64 0, .int .u64 0, .int .u64 0] 82) = w1 at *
  go_enter Tryz.func39, Tryz.ntmps39
  go_upto_region 1 with fail
  simp only [hw1] at *
  clear hw1
  obtain ⟨px, hpx⟩ : ∃ px, w.heap.size = px := ⟨_, rfl⟩
  have HPX := Lib.hid hpx
  rw [hpx] at HH ⊢
  clear hpx
  go_upto_region 4 with (first
    | (go_at_call 26; refine his0.mono ?_; rintro e w2 ⟨⟨s2, rfl, hdat⟩, hw⟩; obtain rfl := hw.symm; obtain ⟨b2, n2, c2⟩ := s2; have HDAT := Lib.hid hdat; clear hw hdat his0; go_frame)
    | (go_at_call 75; refine (HON.out _ _ HDAT.out.rd).mono ?_; rintro e w3 ⟨rfl, hb3⟩; have HB3 := Lib.hid hb3; clear hb3; go_frame)
    | ((with_reducible refine wpList_storeA_new (aggXH _ _ _) rfl (oneXH _ _ _) ?_ ?_ ?_); rfl; rfl; go_frame)
    | fail)
  have hba : Below w3.heap.size w3 (w3.alloc (.cells #[.int .u64 (g1 : Nat), .int .u64 (t1 : Nat), .int .u64 (f1 : Nat)] 82)) := (Below.refl _ _).alloc (Nat.le_refl _) _
  have hXA : (w3.alloc (.cells #[.int .u64 (g1 : Nat), .int .u64 (t1 : Nat), .int .u64 (f1 : Nat)] 82)).heap[w3.heap.size]? = some (.cells #[.int .u64 (g1 : Nat), .int .u64 (t1 : Nat), .int .u64 (f1 : Nat)] 82 (0, 0)) := heap_alloc_at
  have hb14 : Below w1.heap.size w1 (w3.alloc (.cells #[.int .u64 (g1 : Nat), .int .u64 (t1 : Nat), .int .u64 (f1 : Nat)] 82)) := HB3.out.alloc HB3.out.size _
  have his1 := xis_any (HD1.out.below hb14) (a + 1) (by omega)
  rw [show ((a + 1 : Nat) : Int) = (a : Int) + 1 by omega] at his1
  have hp4 := (hb14.block px (lt_of_block HH.out)).trans HH.out
  obtain ⟨xa, hxa⟩ : ∃ xa, w3.heap.size = xa := ⟨_, rfl⟩
  have hpxa : px < xa := by rw [← hxa]; exact Nat.lt_of_lt_of_le (lt_of_block HH.out) HB3.out.size
  rw [hxa] at hXA ⊢
  have HXA := Lib.hid hXA
  have HP4 := Lib.hid hp4
  have HB14 := Lib.hid hb14
  clear hba hXA hp4 hb14 hxa HB3 HDAT c0
  generalize w3.alloc _ = w4 at *
  go_upto_region 5 with (first
    | (go_at_call 26; refine his1.mono ?_; rintro e w5 ⟨⟨s5, rfl, hdat⟩, hw⟩; obtain rfl := hw.symm; obtain ⟨b5, n5, c5⟩ := s5; have HDAT := Lib.hid hdat; clear hw hdat his1; go_frame)
    | (go_at_call 75; refine (HON1.out _ _ HDAT.out.rd).mono ?_; rintro e w6 ⟨rfl, hb6⟩; have HB6 := Lib.hid hb6; clear hb6; go_frame)
    | ((with_reducible refine wpList_storeA_new (aggXH _ _ _) rfl (oneXH _ _ _) ?_ ?_ ?_); rfl; rfl; go_frame)
    | fail)
  have hXB : (w6.alloc (.cells #[.int .u64 (g2 : Nat), .int .u64 (t2 : Nat), .int .u64 (f2 : Nat)] 82)).heap[w6.heap.size]? = some (.cells #[.int .u64 (g2 : Nat), .int .u64 (t2 : Nat), .int .u64 (f2 : Nat)] 82 (0, 0)) := heap_alloc_at
  have hb47 : Below w4.heap.size w4 (w6.alloc (.cells #[.int .u64 (g2 : Nat), .int .u64 (t2 : Nat), .int .u64 (f2 : Nat)] 82)) := HB6.out.alloc HB6.out.size _
  have hXA7 := (hb47.block _ (lt_of_block HXA.out)).trans HXA.out
  have hP7 := (hb47.block _ (lt_of_block HP4.out)).trans HP4.out
  have hB7 : Below w.heap.size w (w6.alloc (.cells #[.int .u64 (g2 : Nat), .int .u64 (t2 : Nat), .int .u64 (f2 : Nat)] 82)) := by
    have s1 := HB1.out.size
    have s2 := HB14.out.size
    exact (HB1.out.trans (HB14.out.mono s1)).trans (hb47.mono (Nat.le_trans s1 s2))
  obtain ⟨xb, hxb⟩ : ∃ xb, w6.heap.size = xb := ⟨_, rfl⟩
  rw [hxb] at hXB ⊢
  have z1 := cell_of (o := 0) hXA7 rfl
  have z2 := cell_of (o := 0) hXB rfl
  have HXA7 := Lib.hid hXA7
  have HXB := Lib.hid hXB
  have HP7 := Lib.hid hP7
  have HB7 := Lib.hid hB7
  clear hXB hb47 hXA7 hP7 hB7 hxb HDAT HXA HP4 HB14 HB6
  generalize w6.alloc _ = w7 at *
  by_cases hc : x2 = true ∧ (x1 = false ∨ g1 < g2)
  · have HRES := Lib.hid (HLV.out.trans (if_pos hc))
    have fin : ∀ w9, w9.heap[px]? = some (.cells #[.int .u64 (g2 : Nat), .int .u64 (t2 : Nat), .int .u64 (f2 : Nat)] 82 (0, 0)) → Mod (fun x => x = px) w7 w9 → Below w.heap.size w w9 := fun w9 _ hm => HB7.out.trans (hm.below HB7.out.size fun x hx1 e => by have := HPX.out; omega)
    have HFIN := Lib.hid fin
    obtain ⟨rfl, hc2⟩ := hc
    have HC2 := Lib.hid hc2
    clear hc2 fin
    cases x1 with
    | false =>
      go_wp2_with (first
        | ((with_reducible refine wpList_loadA (aggXH (g2 : Nat) (t2 : Nat) (f2 : Nat)) (lies_of HXB.out) ?_ ?_); rfl; go_frame)
        | ((with_reducible refine wpList_storeB (aggXH (g2 : Nat) (t2 : Nat) (f2 : Nat)) ?_ ?_ HP7.out rfl (oneXH (g2 : Nat) (t2 : Nat) (f2 : Nat)) ?_); rfl; rfl; (intro w9 hh9 hm9; have HH9 := Lib.hid hh9; have HM9 := Lib.hid hm9; clear hh9 hm9); go_frame)
        | fail)
      (try simp only [Exit.inBlock, Exit.then])
      refine bodyPost_ret (results_cell3 rfl _ rfl (aggXH _ _ _) (lies_of HH9.out)) rfl ?_
      rw [HRES.out]
      exact ⟨rfl, HFIN.out _ HH9.out HM9.out⟩
    | true =>
      have hlt : g1 < g2 := HC2.out.resolve_left (by decide)
      have hd : decide ((g1 : Int) < (g2 : Int)) = true := decide_eq_true (by omega)
      have hd' : decide (g1 < g2) = true := decide_eq_true hlt
      go_wp2_with (first
        | ((with_reducible refine wpList_loadA (aggXH (g2 : Nat) (t2 : Nat) (f2 : Nat)) (lies_of HXB.out) ?_ ?_); rfl; go_frame)
        | ((with_reducible refine wpList_storeB (aggXH (g2 : Nat) (t2 : Nat) (f2 : Nat)) ?_ ?_ HP7.out rfl (oneXH (g2 : Nat) (t2 : Nat) (f2 : Nat)) ?_); rfl; rfl; (intro w9 hh9 hm9; have HH9 := Lib.hid hh9; have HM9 := Lib.hid hm9; clear hh9 hm9); go_frame)
        | fail)
      (try simp only [Exit.inBlock, Exit.then])
      refine bodyPost_ret (results_cell3 rfl _ rfl (aggXH _ _ _) (lies_of HH9.out)) rfl ?_
      rw [HRES.out]
      exact ⟨rfl, HFIN.out _ HH9.out HM9.out⟩
  · have HRES := Lib.hid (HLV.out.trans (if_neg hc))
    have fin : ∀ w9, Mod (fun x => x = px) w7 w9 → Below w.heap.size w w9 := fun w9 hm => HB7.out.trans (hm.below HB7.out.size fun x hx1 e => by have := HPX.out; omega)
    have HFIN := Lib.hid fin
    have HC := Lib.hid hc
    clear hc fin
    cases x2 with
    | false =>
      go_wp2_with (first
        | ((with_reducible refine wpList_loadA (aggXH (g1 : Nat) (t1 : Nat) (f1 : Nat)) (lies_of HXA7.out) ?_ ?_); rfl; go_frame)
        | ((with_reducible refine wpList_storeB (aggXH (g1 : Nat) (t1 : Nat) (f1 : Nat)) ?_ ?_ HP7.out rfl (oneXH (g1 : Nat) (t1 : Nat) (f1 : Nat)) ?_); rfl; rfl; (intro w9 hh9 hm9; have HH9 := Lib.hid hh9; have HM9 := Lib.hid hm9; clear hh9 hm9); go_frame)
        | fail)
      (try simp only [Exit.inBlock, Exit.then])
      refine bodyPost_ret (results_cell3 rfl _ rfl (aggXH _ _ _) (lies_of HH9.out)) rfl ?_
      rw [HRES.out]
      exact ⟨rfl, HFIN.out _ HM9.out⟩
    | true =>
      have hx1 : x1 = true := by
        cases x1 with
        | true => rfl
        | false => exact absurd ⟨rfl, .inl rfl⟩ HC.out
      subst hx1
      have hlt : ¬ g1 < g2 := fun e => HC.out ⟨rfl, .inr e⟩
      have hd : decide ((g1 : Int) < (g2 : Int)) = false := decide_eq_false (by omega)
      have hd' : decide (g1 < g2) = false := decide_eq_false hlt
      have HLT := Lib.hid hlt
      clear hlt
      go_wp2_with (first
        | ((with_reducible refine wpList_loadA (aggXH (g1 : Nat) (t1 : Nat) (f1 : Nat)) (lies_of HXA7.out) ?_ ?_); rfl; go_frame)
        | ((with_reducible refine wpList_storeB (aggXH (g1 : Nat) (t1 : Nat) (f1 : Nat)) ?_ ?_ HP7.out rfl (oneXH (g1 : Nat) (t1 : Nat) (f1 : Nat)) ?_); rfl; rfl; (intro w9 hh9 hm9; have HH9 := Lib.hid hh9; have HM9 := Lib.hid hm9; clear hh9 hm9); go_frame)
        | fail)
      (try simp only [Exit.inBlock, Exit.then])
      refine bodyPost_ret (results_cell3 rfl _ rfl (aggXH _ _ _) (lies_of HH9.out)) rfl ?_
      rw [HRES.out]
      exact ⟨rfl, HFIN.out _ HM9.out⟩
end Go.Proofs.YtmakpbjknklpiaaGreat
