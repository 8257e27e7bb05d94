/- Proved: PcacheQuota returns true and its arguments read as they did. No condition: of all numbers and calls. -/
import Derived.Test.YtldimgchpgoggaaGreatMgQuo32
import Derived.Deep.Cut
import Derived.Test.YtldimgchpgoggaaGreatMgQuo20
import Derived.WalkKit
import Derived.Below
import Derived.ProofKit
import Derived.OpenShut
import Derived.ShutString
import Derived.ChangeOld
import Derived.Lib.SmallJoins
/- PcacheQuota: walked. -/
namespace Go.Proofs.YtldimgchpgoggaaGreat
open Go.RowKit Go.Tn Go.Tn.Bt Go.Tn.Lp Go.Tn.Dk Go.Tn.Ino Go.Tn.Slo Go.Tn.Ck Go.Tn.Pc
theorem eqBlk (w : World) (a b : Blk) : (Op.equalIn 10000 35 (.agg (blC a)) (.agg (blC b))).run Tryz.prog w = .ok (decide (a = b)) w := by
  obtain ⟨i, g, x⟩ := a
  obtain ⟨i', g', x'⟩ := b
  have : decide (((i, g, x) : Blk) = (i', g', x')) = (i == i' && g == g' && x == x') := by
    rw [Bool.eq_iff_iff]; simp [and_assoc]
  rw [this]
  rw [run_equalIn_agg w 9999 35 _ _ (by simp [Program.fieldsOf, Tryz.underlying35]) (by kernel_rfl)]
  simp [go_sem, Program.fieldsOf, Tryz.underlying35, Tryz.underlying33, Op.eqFields, part, isAgg]
  by_cases h1 : i = i'
  · by_cases h2 : g = g'
    · by_cases h3 : x = x'
      · simp [h1, h2, h3]
      · simp [h1, h2, h3]
    · simp [h1, h2]
  · simp [h1]
section
variable {w0 w w1 w' : World} {G : Nat → Prop} {P P' : PC} {I I' : Lg → Dsk → Prop} {c p i : Nat}
theorem lout_mod {α : Type} {en : α → List Value} {k : Nat} {e : TypeId} {B : Nat} {v : Value} {xs : List α} {S : Nat → Prop} (h : LOut en k e B w v xs) (hm : Mod S w w') (hS : ∀ r, v.ownBlock = some r → ¬ S r) : LOut en k e B w' v xs :=
  h.kept hm.size fun r hr => hm.block r (h.lt hr) (hS r hr)
/-- An element of a list of slots. -/
theorem slot_at {B : Nat} {v : Value} {xs : List Slt} (h : LOut enSl 7 42 B w v xs) {k : Nat} {x : Slt} (hk : xs[k]? = some x) : ∃ b o cap, v = .slice (some ⟨b, o, none⟩) xs.length cap ∧ Lies w b (o + k * 7) (slC x) ∧ Lies w b (o + k * 7 + 1) (blC x.blk) := by
  obtain ⟨b, o, cap, h1, -, h3⟩ := (h.sl elSl.len).at_ hk
  refine ⟨b, o, cap, h1, h3, fun j hj => ?_⟩
  have hj3 : j < 3 := hj
  have hL : Lies w b (o + k * 7) (slC x) := h3
  match j, hj3 with
  | 0, _ => exact hL 1 (by simp)
  | 1, _ => exact hL 2 (by simp)
  | 2, _ => exact hL 3 (by simp)
set_option maxRecDepth 40000 in
set_option maxHeartbeats 8000000 in
theorem quota_walk (w : World) (slots : Int) (v : Value) (ds : List DoX) (hds : DosX w v ds) : Calls Tryz.prog 3 #[.int .i64 slots, v] w fun e w' => e = .returned (.bool true) ∧ Below w.heap.size w w' := by
  have hwi := within_any w slots 1 12
  obtain ⟨n, hn, hn1, hn2⟩ : ∃ k : Nat, within slots 1 12 = (k : Int) ∧ 1 ≤ k ∧ k ≤ 12 := by
    refine ⟨(within slots 1 12).toNat, ?_, ?_, ?_⟩ <;> unfold within <;> split <;> (try split) <;> omega
  rw [hn] at hwi
  have hfw := few_any w v ds hds 60 (by decide)
  rw [show ((60 : Nat) : Int) = 60 from rfl] at hfw
  obtain ⟨a0, n0, c0, rfl⟩ : ∃ a n c, v = .slice a n c := by
    obtain ⟨xs, -, ⟨ao, cap, rfl, -⟩, -⟩ := hds
    exact ⟨_, _, _, rfl⟩
  have hn2' : (n : Int) ≤ 12 := by omega
  have hn1' : (1 : Int) ≤ n := by omega
  have HN := Lib.hid (⟨hn1, hn2⟩ : 1 ≤ n ∧ n ≤ 12)
  clear hds hn hn1 hn2
  go_enter Tryz.func3, Tryz.ntmps3
  go_wp2_with (first
    | (go_at_call 7; refine hwi.mono ?_; rintro e wt ⟨rfl, hw⟩; obtain rfl := hw.symm; clear hw)
    | fail)
  refine hfw.mono ?_
  rintro e wl ⟨v1, es, rfl, hD1, hel, hdt, hb1⟩
  obtain ⟨xs, hxs, hxL, hxD⟩ := hD1
  have hxl : xs.length = es.length := by rw [← hxs]; simp
  obtain ⟨ao, ca, rfl, x1, x2, x3⟩ := hxL
  rw [hxl] at x1 x3 ⊢
  unfold maxLen at x2
  have hb63 : (es.length : Int) ≤ 60 := by omega
  have hnw := newd_any wl (n + 24) (by omega) (by have := HN.out.2; omega)
  rw [show ((n + 24 : Nat) : Int) = (n : Int) + 24 by omega] at hnw
  have HB1 := Lib.hid hb1
  have HXD := Lib.hid hxD
  have HXL := Lib.hid hxl
  have HX3 := Lib.hid x3
  have HEL := Lib.hid hel
  clear hfw hwi hxs hxD hxl hb1 hdt x3 hel
  go_wp2_with fail
  refine hnw.mono ?_
  rintro e w2 ⟨p, FD, rfl, hD, hb2, hF⟩
  have hop := popen_new (w0 := wl) (n := n) hD (fun b hb => hF b hb) hb2 HN.out.1 HN.out.2 (by omega) (by have := HN.out.2; omega)
  clear hnw hD hb2 hF
  go_wp2_with fail
  refine hop.mono ?_
  rintro e w3 ⟨c, G, rfl, hQ3, -, -⟩
  have HQ3 := Lib.hid hQ3
  have HP3 : Hid ((PC.new n 0).Pin ∧ (PC.new n 0).L.length = n) := Lib.hid ⟨pin_new _ _, by simp [PC.new]⟩
  clear hop hQ3
  go_wp2
  go_loopw [9] (fun iv wi => ∃ (i : Nat) (P : PC) (G : Nat → Prop), i ≤ es.length ∧ iv = .int .i64 i ∧ PQ wl (2 * i) c p P G wi ∧ P.Pin ∧ P.L.length = n) (fun iv _ => es.length - (intOf iv).toNat)
  case atStart => exact ⟨0, _, G, Nat.zero_le _, rfl, HQ3.out, HP3.out.1, HP3.out.2⟩
  case round =>
    clear HQ3 HP3 G
    obtain ⟨i, P, G, hi, rfl, hQ, hpin, hpl⟩ := hrel
    have HQ := Lib.hid hQ
    have HPIN := Lib.hid hpin
    have HPL := Lib.hid hpl
    clear hQ hpin hpl
    by_cases hil : i < es.length
    · have hil' : (i : Int) < (es.length : Int) := by omega
      obtain ⟨x, hx⟩ : ∃ x, xs[i]? = some x := ⟨_, List.getElem?_eq_getElem (by rw [HXL.out]; exact hil)⟩
      obtain ⟨b4, o4, rfl, hb4, hc4⟩ := HX3.out (by omega)
      have hlx : Lies wr b4 (o4 + i * 11) (doC x) := (hc4 i x hx).below' HQ.out.w hb4
      have hfx := (HXD.out x (List.mem_of_getElem? hx)).below HQ.out.w
      have hLb : Lies wr b4 (o4 + i * 11 + 3) (blC x.1.x.blk) := fun j hj => by
        have hj3 : j < 3 := hj
        match j, hj3 with
        | 0, _ => exact hlx 3 (by show 3 < 11; decide)
        | 1, _ => exact hlx 4 (by show 4 < 11; decide)
        | 2, _ => exact hlx 5 (by show 5 < 11; decide)
      have hagb := aggBl x.1.x.blk
      obtain ⟨kd, hkd⟩ : ∃ k, x.1.kind = k := ⟨_, rfl⟩
      have q0 : wr.cell? ⟨b4, o4 + i * 11, none⟩ = some (.int .i64 kd) := by
        rw [← hkd]
        exact hlx 0 (by show 0 < 11; decide)
      have HKD := Lib.hid hkd
      have HFX := Lib.hid hfx
      have HC4 : Hid (Lies wl b4 (o4 + i * 11) (doC x)) := Lib.hid (hc4 i x hx)
      have HB4 := Lib.hid hb4
      clear hx hc4 hkd hfx hb4
      by_cases hk0 : kd = 0
      · subst hk0
        have hdy := HQ.out.dirty
        clear hLb
        go_upto_region 12 with fail
        go_wp2_with fail
        refine hdy.mono ?_
        rintro e w5 ⟨v1, is1, rfl, hby1, h64, hO1, hb5⟩
        have H64 := Lib.hid h64
        clear h64
        have hQ5 := HQ.out.below hb5
        have hfy := HFX.out.below hb5
        have hdo := does_any hQ5 (by omega) x hfy
        have hlx5 := hlx.below' hb5 (Nat.lt_of_lt_of_le HB4.out HQ.out.w.size)
        have hdd : P.does x.1 = P.put x.1.x := by unfold PC.does; rw [if_pos HKD.out]
        rw [hdd] at hdo
        have hag := aggDo x
        have hnG1 : ∀ r, v1.ownBlock = some r → ¬ G r := fun r hr hg => by
          have h1 := hO1.lo r hr
          have h2 := HQ.out.hi r hg
          omega
        obtain ⟨a5, n5, c5, hv1⟩ := hO1.shape
        have hn5 : n5 = is1.length := by
          obtain ⟨ao, cap, e, -⟩ := hO1.sl elSl.len
          rw [hv1, List.length_map] at e
          simpa using congrArg (fun v => match v with | .slice _ n _ => n | _ => 0) e
        subst hn5
        subst hv1
        have HO1 := Lib.hid hO1
        have HBY1 := Lib.hid hby1
        have HNG1 := Lib.hid hnG1
        clear hdy hby1 hb5 hQ5 hfy hlx hdd hO1 hnG1 q0
        go_wp2_with (first
          | ((with_reducible refine wpList_loadA hag hlx5 ?_ ?_); rfl; go_frame)
          | fail)
        refine hdo.mono ?_
        rintro e w6 ⟨rfl, hT6⟩
        obtain ⟨G6, hQ6, hn6, -, hm6⟩ := hT6.st
        have hO6 := lout_mod HO1.out hm6 HNG1.out
        have hng6 : ∀ r, (Value.slice a5 is1.length c5).ownBlock = some r → ¬ G6 r := fun r hr => hn6 r (HO1.out.lt hr) (HNG1.out r hr)
        have hal := hQ6.all
        obtain ⟨P6, hP6⟩ : ∃ P6, (P.put x.1.x).1 = P6 := ⟨_, rfl⟩
        obtain ⟨cd, hcd⟩ : ∃ cd, (P.put x.1.x).2 = cd := ⟨_, rfl⟩
        have hpk := put_ok HQ.out.ok.1 HQ.out.ok.2 x.1.x
        have hl6 : P6.L.length = n := by rw [← hP6, hpk.2.1]; exact HPL.out
        have hpin6 : P6.Pin := by rw [← hP6]; exact HPIN.out.put HQ.out.ok.1 HQ.out.ok.2 x.1.x
        have hfull : cd = 8 → is1.length = n := fun e => by
          rw [← HPL.out]
          exact full_dirty HPIN.out HQ.out.ok.1 HQ.out.ok.2 (x := x.1.x) (hcd.trans e) HBY1.out
        have hstay : ∀ j, j ∈ is1 → ∃ k, P6.find (P.at_ j).blk = some k ∧ ((P.at_ j).blk ≠ x.1.x.blk → P6.at_ k = P.at_ j) := fun j hj => by
          obtain ⟨h1, h2, h3⟩ := (HBY1.out.mem j).1 hj
          rw [← hP6]
          exact dirty_stays HPIN.out HQ.out.ok.1 HQ.out.ok.2 x.1.x h1 h2 h3
        rw [hP6] at hQ6 hal
        rw [hcd]
        have HO6 := Lib.hid hO6
        have HNG6 := Lib.hid hng6
        have HQ6 := Lib.hid hQ6
        have HL6 := Lib.hid hl6
        have HPIN6 := Lib.hid hpin6
        have HFULL := Lib.hid hfull
        have HSTAY := Lib.hid hstay
        clear hdo hO6 hn6 hm6 hng6 hQ6 hP6 hcd hpk hl6 hpin6 hfull hstay hlx5 HO1 HNG1
        go_wp2_with fail
        refine hal.mono ?_
        rintro e w7 ⟨v2, is2, rfl, hby2, -, hO2, hb7⟩
        have hl2 : is2.length ≤ n := by
          have h1 : is2.length ≤ (List.range P6.L.length).length := nodup_len hby2.nodup List.nodup_range fun i hi => List.mem_range.2 ((hby2.mem i).1 hi).1
          rwa [List.length_range, HL6.out] at h1
        obtain ⟨a7, n7, c7, hv2⟩ := hO2.shape
        have hn7 : n7 = is2.length := by
          obtain ⟨ao, cap, e, -⟩ := hO2.sl elSl.len
          rw [hv2, List.length_map] at e
          simpa using congrArg (fun v => match v with | .slice _ n _ => n | _ => 0) e
        subst hn7
        subst hv2
        have hle2 : ¬ (n : Int) < (is2.length : Int) := by omega
        have hle3 : ¬ n < is2.length := by omega
        have HL2 := Lib.hid hl2
        clear hl2
        have hO67 := HO6.out.below hb7
        have HO7 := Lib.hid hO67
        have HO2 := Lib.hid hO2
        have HBY2 := Lib.hid hby2
        have HQ7 := Lib.hid (HQ6.out.below hb7)
        clear hal hby2 hO2 hb7 hO67 HO6 HQ6
        go_upto_region 15 with fail
        go_cut [82] (fun s wx => s = .bool false ∧ wx = w7)
        case first =>
          by_cases h8 : cd = 8
          · have hne8 : ((is1.length : Int) != (n : Int)) = false := by rw [HFULL.out h8]; simp
            subst h8
            go_wp2
            go_meet
            case rel => exact ⟨rfl, rfl⟩
          · have hne8 : ((cd : Int) == 8) = false := beq_eq_false_iff_ne.2 (by omega)
            go_wp2
            go_meet
            case rel => exact ⟨rfl, rfl⟩
        case rest =>
          obtain ⟨hs82, hwc⟩ := hcut
          subst hwc
          subst hs82
          have HO7B := Lib.hid (HO7.out.mono (Nat.zero_le _))
          clear hle2 hle3 HO7 HEL
          have hQ8 := HQ7.out
          obtain ⟨wq, hwq⟩ : ∃ wq, wq = wr := ⟨_, rfl⟩
          subst hwq
          go_wp2
          go_loopw [13] (fun kv wi => ∃ m : Nat, kv = .int .i64 ((m : Int) + 1) ∧ m ≤ is2.length ∧ Below wc.heap.size wc wi) (fun kv _ => is2.length + 1 - (intOf kv).toNat)
          case atStart => exact ⟨0, rfl, Nat.zero_le _, Below.refl _ _⟩
          case round =>
            obtain ⟨m, rfl, hm, hb⟩ := hrel
            have HB := Lib.hid hb
            clear hb
            by_cases hml : m + 1 < is2.length
            · have hml' : (m : Int) + 1 < (is2.length : Int) := by omega
              have hix : ((m : Int) + 1).toNat = m + 1 := by omega
              have hix0 : (0 : Int) ≤ (m : Int) + 1 := by omega
              have hwm : IntKind.i64.wrap (m : Int) = m := IntWalk.i64_in _ (by have := HL2.out; have := HN.out.2; omega)
              have hml0 : (m : Int) < (is2.length : Int) := by omega
              obtain ⟨j0, hj0⟩ : ∃ j, is2[m]? = some j := ⟨_, List.getElem?_eq_getElem (by omega)⟩
              obtain ⟨j1, hj1⟩ : ∃ j, is2[m + 1]? = some j := ⟨_, List.getElem?_eq_getElem hml⟩
              have hlt : bLess (P6.at_ j0).blk (P6.at_ j1).blk := by
                obtain ⟨h0, e0⟩ := List.getElem?_eq_some_iff.1 hj0
                obtain ⟨h1, e1⟩ := List.getElem?_eq_some_iff.1 hj1
                have := List.pairwise_iff_getElem.1 HBY2.out.ord m (m + 1) h0 h1 (Nat.lt_succ_self _)
                rwa [e0, e1] at this
              obtain ⟨r, hr⟩ : ∃ r, cmpB (P6.at_ j0).blk (P6.at_ j1).blk = r := ⟨_, rfl⟩
              have hr0 : r < 0 := by rw [← hr]; exact (cmpB_lt _ _).2 hlt
              have hrd : ¬ (0 : Int) ≤ r := by omega
              obtain ⟨b, o, cap, hv, -, hL0⟩ := slot_at (HO2.out.below HB.out) (k := m) (x := P6.at_ j0) (by rw [List.getElem?_map, hj0]; rfl)
              obtain ⟨b', o', cap', hv', -, hL1⟩ := slot_at (HO2.out.below HB.out) (k := m + 1) (x := P6.at_ j1) (by rw [List.getElem?_map, hj1]; rfl)
              obtain rfl : a7 = some ⟨b, o, none⟩ := (Value.slice.inj hv).1
              obtain ⟨rfl, rfl⟩ : b = b' ∧ o = o' := by
                have e := (Value.slice.inj hv').1
                cases e
                exact ⟨rfl, rfl⟩
              have hbl : b < wr.heap.size := World.block_lt_of_cell? wr _ (hL0 0 (by simp))
              have hor := order_any wr.drew (P6.at_ j0).blk (P6.at_ j1).blk
              rw [hr] at hor
              have hag0 := aggBl (P6.at_ j0).blk
              have hag1 := aggBl (P6.at_ j1).blk
              have hS : Lies wr.drew b (o + m * 7 + 1) (blC (P6.at_ j0).blk) ∧ Lies wr.drew b (o + (m + 1) * 7 + 1) (blC (P6.at_ j1).blk) := ⟨hL0, hL1⟩
              have HBL := Lib.hid hbl
              clear hj0 hj1 hlt hr hr0 hv hv' hL0 hL1 hbl
              go_upto_region 20 with fail
              refine wp_region_x (fun w' => Lies w' b (o + m * 7 + 1) (blC (P6.at_ j0).blk) ∧ Lies w' b (o + (m + 1) * 7 + 1) (blC (P6.at_ j1).blk)) [(0, 1), (1, 1), (2, 1), (3, 1), (4, 1), (5, 0), (6, 1), (7, 1), (8, 1), (9, 1), (10, 0), (11, 2), (12, 1)] (by kernel_rfl) (by kernel_rfl) (by intro d v c a w h; cases d <;> exact h) ?_
              iterate 5 (refine x_take rfl (fun K hK => ?_); go_simp; refine hK _ ?_; clear hK K)
              refine x_read rfl hS (fun w' h => exec_loadA hag0 rfl h.1) ?_
              iterate 4 (refine x_take rfl (fun K hK => ?_); go_simp; refine hK _ ?_; clear hK K)
              refine x_read rfl hS (fun w' h => exec_loadA hag1 rfl h.2) ?_
              refine x_show' rfl (fun K hK => ?_)
              go_simp
              refine hor.mono ?_
              rintro e w9 ⟨rfl, q, os', hw⟩
              have hb9 : Below wr.heap.size wr.drew w9 := by
                rw [hw]
                exact (below_drewN (Below.refl wr.heap.size wr.drew) q).trans (below_grow (wr.drew.drewN q) os')
              have hS2 : Lies w9 b (o + m * 7 + 1) (blC (P6.at_ j0).blk) ∧ Lies w9 b (o + (m + 1) * 7 + 1) (blC (P6.at_ j1).blk) := ⟨hS.1.below' hb9 HBL.out, hS.2.below' hb9 HBL.out⟩
              have HB9 := Lib.hid (HB.out.trans ((Below.refl wr.heap.size wr).drew.trans hb9 |>.mono HB.out.size))
              refine hK _ _ hS2 ?_
              clear hK K hS hS2 hw hb9 hor
              iterate 1 (refine x_take rfl (fun K hK => ?_); go_simp; refine hK _ ?_; clear hK K)
              refine x_nil ?_
              clear hwm hix
              have hm12 : (m : Int) ≤ 12 := by have := HL2.out; have := HN.out.2; omega
              go_wp2
              go_roundw
              case rel => exact ⟨m + 1, by go_num, by omega, HB9.out⟩
              case measure => simp [intOf]; omega
            · have hml' : ¬ (m : Int) + 1 < (is2.length : Int) := by omega
              have hO8 := HO7B.out.below HB.out
              have hng8 := HNG6.out
              have hQ9 := hQ8.below HB.out
              have HO8 := Lib.hid hO8
              have HQ9 := Lib.hid hQ9
              clear hO8 hQ9 hng8 hQ8
              go_wp2
              obtain ⟨wp, hwp⟩ : ∃ wp, wp = wr := ⟨_, rfl⟩
              subst hwp
              go_loopw [14] (fun kv wi => ∃ (k : Nat) (Pk : PC) (Gk : Nat → Prop), kv = .int .i64 k ∧ k ≤ is1.length ∧ PQ wl (2 * (i + 1)) c p Pk Gk wi ∧ Pk.L = P6.L ∧ Pk.Pin ∧ LOut enSl 7 42 0 wi (.slice a5 is1.length c5) (is1.map P.at_) ∧ ∀ r, (Value.slice a5 is1.length c5).ownBlock = some r → ¬ Gk r) (fun kv _ => is1.length - (intOf kv).toNat)
              case atStart => exact ⟨0, P6, G6, rfl, Nat.zero_le _, HQ9.out, rfl, HPIN6.out, HO8.out, HNG6.out⟩
              case round =>
                obtain ⟨k, Pk, Gk, rfl, hk, hQk, hLk, hpk, hOk, hnk⟩ := hrel
                have HQK := Lib.hid hQk
                have HLK := Lib.hid hLk
                have HPK := Lib.hid hpk
                have HOK := Lib.hid hOk
                have HNK := Lib.hid hnk
                clear hQk hLk hpk hOk hnk
                by_cases hkl : k < is1.length
                · have hkl' : (k : Int) < (is1.length : Int) := by omega
                  have hk64 : (k : Int) ≤ 64 := by have := H64.out; omega
                  obtain ⟨j, hj⟩ : ∃ j, is1[k]? = some j := ⟨_, List.getElem?_eq_getElem hkl⟩
                  obtain ⟨k', hf6, hat6⟩ := HSTAY.out j (List.mem_of_getElem? hj)
                  obtain ⟨b, o, cap, hv, hLy, hLb⟩ := slot_at HOK.out (k := k) (x := P.at_ j) (by rw [List.getElem?_map, hj]; rfl)
                  obtain rfl : a5 = some ⟨b, o, none⟩ := (Value.slice.inj hv).1
                  obtain ⟨y, hy⟩ : ∃ y, P.at_ j = y := ⟨_, rfl⟩
                  rw [hy] at hf6 hat6 hLy hLb
                  obtain ⟨z, hz⟩ : ∃ z, P6.at_ k' = z := ⟨_, rfl⟩
                  rw [hz] at hat6
                  have hgk : (Pk.get y.blk).2 = (z, true) := by
                    have e1 : Pk.find y.blk = some k' := by rw [find_of_L HLK.out]; exact hf6
                    have e2 : Pk.at_ k' = z := by rw [at_of_L HLK.out]; exact hz
                    unfold PC.get
                    rw [e1, ← e2]
                  have hge := HQK.out.getQ y.blk
                  rw [show (Pk.get y.blk).2.1 = z by rw [hgk], show (Pk.get y.blk).2.2 = true by rw [hgk]] at hge
                  have hgl : (Pk.get y.blk).1.L = P6.L := by rw [get_L]; exact HLK.out
                  have hgp : (Pk.get y.blk).1.Pin := HPK.out.get y.blk
                  obtain ⟨Pn, hPn⟩ : ∃ Pn, (Pk.get y.blk).1 = Pn := ⟨_, rfl⟩
                  rw [hPn] at hge hgl hgp
                  have hagb := aggBl y.blk
                  have HAT := Lib.hid hat6
                  have HJ := Lib.hid hj
                  have HYE := Lib.hid hy
                  have HGL := Lib.hid hgl
                  have HGP := Lib.hid hgp
                  clear hj hf6 hat6 hv hy hz hgk hgl hgp hPn hLy
                  go_wp2_with (first
                    | ((with_reducible refine wpList_loadA hagb hLb ?_ ?_); rfl; go_frame)
                    | fail)
                  refine hge.mono ?_
                  rintro e w9 ⟨rfl, hT9⟩
                  obtain ⟨Gn, hQn, hnn, -, hmn⟩ := hT9.st
                  have hOn := lout_mod HOK.out hmn HNK.out
                  have hnGn : ∀ r, (Value.slice (some ⟨b, o, none⟩) is1.length c5).ownBlock = some r → ¬ Gn r := fun r hr => hnn r (HOK.out.lt hr) (HNK.out r hr)
                  obtain ⟨w10, hw10⟩ : ∃ w10, w9.alloc (.cells (slC z) 42) = w10 := ⟨_, rfl⟩
                  have hb10 : Below w9.heap.size w9 w10 := by rw [← hw10]; exact (Below.refl _ _).alloc (Nat.le_refl _) _
                  have hz10 : w10.heap[w9.heap.size]? = some (.cells (slC z) 42 (0, 0)) := by rw [← hw10]; exact heap_alloc_at
                  have hQ10 := hQn.below hb10
                  have hO10 := hOn.below hb10
                  obtain ⟨b2, o2, cap2, hv2, hLy, hLb2⟩ := slot_at hO10 (k := k) (x := y) (by rw [List.getElem?_map, HJ.out]; exact congrArg some HYE.out)
                  obtain ⟨rfl, rfl⟩ : b = b2 ∧ o = o2 := by
                    have e := (Value.slice.inj hv2).1
                    cases e
                    exact ⟨rfl, rfl⟩
                  have hLx : Lies w10 b4 (o4 + i * 11 + 3) (blC x.1.x.blk) := fun j hj => by
                    have hL := HC4.out.below' hQ10.w HB4.out
                    have hj3 : j < 3 := hj
                    match j, hj3 with
                    | 0, _ => exact hL 3 (by show 3 < 11; decide)
                    | 1, _ => exact hL 4 (by show 4 < 11; decide)
                    | 2, _ => exact hL 5 (by show 5 < 11; decide)
                  have hLz := lies_of hz10
                  have hagz := aggSl z
                  have honz := oneSl z
                  have hagy := aggSl y
                  have hagx := aggBl x.1.x.blk
                  have hgtB : Tryz.prog.eqGuardType Tryz.prog.depth 35 = false := by kernel_rfl
                  have hgtS : Tryz.prog.eqGuardType Tryz.prog.depth 42 = false := by kernel_rfl
                  have heqB := fun w => eqBlk w y.blk x.1.x.blk
                  have heqS := fun w => eqSlt w z y
                  have HQ10 := Lib.hid hQ10
                  have HO10 := Lib.hid hO10
                  have HNGN := Lib.hid hnGn
                  clear hge hT9 hQn hnn hmn hOn hnGn hb10 hz10 hQ10 hO10 hv2 hLb
                  go_upto_region 26 with (first
                    | ((with_reducible refine wpList_storeA_new hagz ?_ honz ?_ ?_ ?_); rfl; rfl; rfl; go_frame)
                    | fail)
                  simp only [hw10] at *
                  clear hw10
                  have hS : Lies w10.drew b (o + k * 7 + 1) (blC y.blk) ∧ Lies w10.drew b4 (o4 + i * 11 + 3) (blC x.1.x.blk) ∧ Lies w10.drew w9.heap.size 0 (slC z) ∧ Lies w10.drew b (o + k * 7) (slC y) := ⟨hLb2, hLx, hLz, hLy⟩
                  refine wp_region_g (fun w' => Lies w' b (o + k * 7 + 1) (blC y.blk) ∧ Lies w' b4 (o4 + i * 11 + 3) (blC x.1.x.blk) ∧ Lies w' w9.heap.size 0 (slC z) ∧ Lies w' b (o + k * 7) (slC y)) [(0, 1), (1, 1), (2, 1), (3, 1), (4, 1), (5, 1), (6, 1), (7, 0), (8, 1), (9, 1), (10, 1), (11, 1), (12, 1), (13, 0), (14, 1), (15, 1), (16, 0), (17, 1), (18, 1), (19, 1), (20, 0), (21, 1), (22, 1), (23, 1)] (by kernel_rfl) (by kernel_rfl) (by intro d v c a w h; cases d <;> exact h) ?_
                  iterate 3 (refine g_take rfl rfl (fun K hK => ?_); go_simp; refine hK _ ?_; clear hK K)
                  iterate 4 (refine g_take rfl rfl (fun K hK => ?_); go_simp; refine hK _ ?_; clear hK K)
                  refine g_read rfl rfl hS (fun w' h => exec_loadA hagb rfl h.1) ?_
                  iterate 5 (refine g_take rfl rfl (fun K hK => ?_); go_simp; refine hK _ ?_; clear hK K)
                  refine g_read rfl rfl hS (fun w' h => exec_loadA hagx rfl h.2.1) ?_
                  refine g_take rfl rfl (fun K hK => ⟨_, fun w => exec_neqS hgtB heqB rfl rfl w, ?_⟩)
                  refine hK _ ?_
                  clear hK K
                  have HQF := Lib.hid (HQ10.out.below (w' := w10.drew) (Below.refl _ _).drew)
                  have HOF := Lib.hid (HO10.out.below (w' := w10.drew) (Below.refl _ _).drew)
                  by_cases hbe : y.blk = x.1.x.blk
                  · rw [show (!decide (y.blk = x.1.x.blk)) = false by rw [decide_eq_true hbe]; rfl]
                    clear hbe heqB
                    iterate 1 (refine g_take rfl rfl (fun K hK => ?_); go_simp; refine hK _ ?_; clear hK K)
                    iterate 6 (refine g_offK rfl rfl (fun _ => hS) (fun K hK => ?_); go_simp; refine hK _ ?_; clear hK K)
                    iterate 2 (refine g_take rfl rfl (fun K hK => ?_); go_simp; refine hK _ ?_; clear hK K)
                    refine g_nil ?_
                    clear hS
                    go_wp2
                    go_roundw
                    case rel => exact ⟨k + 1, Pn, Gn, by go_num, by omega, HQF.out, HGL.out, HGP.out, HOF.out, HNGN.out⟩
                    case measure => simp [intOf]; omega
                  · rw [show (!decide (y.blk = x.1.x.blk)) = true by rw [decide_eq_false hbe]; rfl]
                    have HZE := Lib.hid (HAT.out hbe)
                    clear hbe heqB
                    iterate 1 (refine g_take rfl rfl (fun K hK => ?_); go_simp; refine hK _ ?_; clear hK K)
                    refine g_read rfl rfl hS (fun w' h => exec_loadA hagz rfl h.2.2.1) ?_
                    iterate 3 (refine g_take rfl rfl (fun K hK => ?_); go_simp; refine hK _ ?_; clear hK K)
                    refine g_read rfl rfl hS (fun w' h => exec_loadA hagy rfl h.2.2.2) ?_
                    refine g_take rfl rfl (fun K hK => ⟨_, fun w => exec_neqS (xs := slC z) (ys := slC y) hgtS heqS rfl rfl w, ?_⟩)
                    refine hK _ ?_
                    clear hK K
                    rw [show (!decide (z = y)) = false by rw [decide_eq_true HZE.out]; rfl]
                    clear heqS
                    iterate 2 (refine g_take rfl rfl (fun K hK => ?_); go_simp; refine hK _ ?_; clear hK K)
                    refine g_nil ?_
                    clear hS
                    go_wp2
                    go_roundw
                    case rel => exact ⟨k + 1, Pn, Gn, by go_num, by omega, HQF.out, HGL.out, HGP.out, HOF.out, HNGN.out⟩
                    case measure => simp [intOf]; omega
                · obtain rfl : k = is1.length := by omega
                  have hLn : Pk.L.length = n := by rw [HLK.out]; exact HL6.out
                  have HLN := Lib.hid hLn
                  clear hLn
                  go_wp2
                  go_roundw
                  case rel => exact ⟨i + 1, Pk, Gk, by omega, by go_num, HQK.out, HPK.out, HLN.out⟩
                  case measure => simp [intOf]; omega
      · have hne : (kd != 0) = true := by rw [bne_iff_ne]; exact hk0
        have hge := HQ.out.getQ x.1.x.blk
        clear hlx
        go_wp2_with (first
          | ((with_reducible refine wpList_loadA hagb hLb ?_ ?_); rfl; go_frame)
          | fail)
        refine hge.mono ?_
        rintro e w5 ⟨rfl, hT⟩
        obtain ⟨G', hQ', -⟩ := hT
        have HQ5 := Lib.hid (hQ'.imp (I' := fun l d => PInv (2 * (i + 1)) l d (P.get x.1.x.blk).1) fun _ _ h => h.mono (by omega))
        have HP5 := Lib.hid (HPIN.out.get x.1.x.blk)
        have HL5 : Hid ((P.get x.1.x.blk).1.L.length = n) := Lib.hid (by rw [get_L]; exact HPL.out)
        clear hge hQ' hLb q0
        go_wp2
        go_roundw
        case rel => exact ⟨i + 1, _, G', by omega, by go_num, HQ5.out, HP5.out, HL5.out⟩
        case measure => simp [intOf]; omega
    · obtain rfl : i = es.length := by omega
      have hwl := HQ.out.w
      go_wp2_with (first
        | (go_at_call 16; refine (lives_any _).mono ?_; rintro e w8 ⟨rfl, hb8⟩; have HB8 := Lib.hid (HB1.out.trans ((hwl.trans (hb8.mono hwl.size)).mono HB1.out.size)); clear hb8)
        | fail)
      go_ret
      exact ⟨rfl, HB8.out⟩
end
end Go.Proofs.YtldimgchpgoggaaGreat

/- Proved: PcacheQuota returns true and its arguments read as they did. No condition: of all numbers and calls. -/
namespace Go.Proofs.YtldimgchpgoggaaGreat
open Go.ChangeShapes Go.WideShapes Go.ChangeAt Go.RowKit Go.Tn Go.Joins




set_option maxRecDepth 100000 in
theorem quota_lifted (os : Os) (started : os.Started) (H : Type) (enc : TypeId × Value → H) :
    ReturnsInHanded {} Tryz.checked os 3 .any (Rows.pcacheQuotaSpec.pre6 enc Tryz.prog Tryz.f3 Rows.pcacheQuotaRow.domain false) (Rows.pcacheQuotaSpec.post enc Tryz.prog Tryz.f3 false true false false) := by
  refine returnsInHanded_of_change (C := Tryz.checked) Tryz.own started (by kernel_rfl) Tryz.func3
    (ChangeSpec.witness6 (enc := enc) (C := Tryz.checked) false ⟨#[], #[.int .i64 0, .slice none 0 0], []⟩ 8 (by kernel_rfl) (by kernel_rfl) (by kernel_rfl) (by kernel_rfl)) ?_
  intro W base args ds gs before hval0 hW hcnd _
  have hval : ∀ (j : Nat) t v, Tryz.f3.params[j]? = some t → args[j]? = some v → Value.okWide Tryz.prog W .any base t v := hval0
  have hW' := hW
  obtain ⟨p, q, hA0, hV, rfl, hfz, hnd⟩ := hW
  have hA : DataW.TrodAll enc Tryz.prog W 0 (fun _ => true) true Tryz.f3.params.toList args.toList ds p := hA0
  rw [Tryz.params3] at hA hval
  obtain ⟨v0, vs0, d0, ds0, p0, q0, hargs, rfl, rfl, h0, r0⟩ := trodAll_cons hA
  obtain ⟨v1, vs1, d1, ds1, p1, q1, rfl, rfl, rfl, h1, r1⟩ := trodAll_cons r0
  obtain ⟨rfl, rfl, rfl⟩ := trodAll_nil r1
  obtain rfl : args = #[v0, v1] := by cases args; simp_all
  obtain ⟨rfl, rfl⟩ := trodVars_none hV
  obtain ⟨a0, rfl, rfl, rfl, w0⟩ := open_int Tryz.underlying3 (hval 0 3 v0 rfl rfl) h0
  obtain ⟨a1, len1, cap1, rfl⟩ := okWide_slice Tryz.underlying22 (hval 1 22 v1 rfl rfl)
  have k1 := h1
  have lt1 : ∀ x ∈ p1, x.block < W.heap.size := by obtain ⟨m, hm⟩ := k1; exact DataW.trod_lt m _ _ _ hm
  obtain ⟨es, hes⟩ := dos_of h1
  clear hA0 hval0
  refine (quota_walk W a0 _ es hes).mono fun e W' ⟨he, bel⟩ => ?_
  subst he
  exact ⟨_, rfl, _, _, _, [], _, [], hW', trodAll_mk1 (shut_bool Tryz.underlying4 _), (trodAll_cons_mk (shut_int Tryz.underlying3 w0) (trodAll_cons_mk (Below.trod Tryz.laidOut (by kernel_rfl) (of_decide_eq_true (by kernel_rfl)) k1 bel lt1) trodAll_mk0)), rfl, bel.frame _, fun h => by cases h⟩
theorem quota_holds : Rows.PcacheQuotaSaid :=
  OpenClaim.holds_of_wide 3 Tryz.f3 rfl rfl rfl rfl rfl rfl rfl ⟨rfl, rfl, rfl, rfl, rfl⟩ rfl rfl rfl rfl rfl (by kernel_rfl) Tryz.func3 (by kernel_rfl)
    (of_decide_eq_true (by kernel_rfl)) (by unfold Func.isWrapper; first | (rw [if_pos (by decide +kernel)]; kernel_rfl) | (rw [if_neg (by decide +kernel)]; exact ⟨rfl, rfl⟩))
    (fun os started H enc _ => quota_lifted os started H enc)
end Go.Proofs.YtldimgchpgoggaaGreat
