/- Proved: RedoPlays returns true and its arguments read as they did. No condition: of all numbers and calls. -/
import Derived.Test.YtmakpbjknklpiaaGreatMgRpl37
import Derived.Test.YtmakpbjknklpiaaGreatMgRpl38
import Derived.Test.YtmakpbjknklpiaaGreatMgRpl20
import Derived.Test.YtmakpbjknklpiaaGreatMgRpl24
/- RedoPlays, walked. -/
namespace Go.Proofs.YtmakpbjknklpiaaGreat
open Go.RowKit Go.Tn Go.Tn.Bt Go.Tn.Lp Go.Tn.Dk
/-- Where both stand behind i calls. -/
def PIs (w : World) (p q n z i : Nat) (gv yv : Value) (wi : World) : Prop := ∃ g h F FD S G GD l d, gv = .pointer (some ⟨g, 0, none⟩) ∧ yv = .pointer (some ⟨h, 0, none⟩) ∧ PMem w p q g h (z - 2 - n) F FD S G GD l d l d wi ∧ KI n i l d ∧ d.L.length = z ∧ d.Q.length ≤ 5000 * i
set_option maxRecDepth 20000 in
set_option maxHeartbeats 8000000 in
theorem plays_walk (w : World) (sz n : Int) (v : Value) (ds : List DoP) (hds : DosI w v ds) (hn63 : -9223372036854775808 ≤ n ∧ n < 9223372036854775808) (hs63 : -9223372036854775808 ≤ sz ∧ sz < 9223372036854775808) : Calls Tryz.prog 3 #[.int .i64 sz, .int .i64 n, v] w fun e w' => e = .returned (.bool true) ∧ Below w.heap.size w w' := by
  obtain ⟨z, hzw, hz1, hz30⟩ := within_nat sz (show 1 ≤ 30 by decide)
  obtain ⟨a0, n0, c0, rfl⟩ : ∃ a n c, v = .slice a n c := by
    obtain ⟨xs, -, ⟨ao, cap, rfl, -⟩, -⟩ := hds
    exact ⟨_, _, _, rfl⟩
  obtain ⟨xs, hxs, hxL, hxD⟩ := hds
  have hxl : xs.length = ds.length := by rw [← hxs]; simp
  obtain ⟨ao, ca, hvv, x1, x2, x3⟩ := hxL
  obtain ⟨rfl, rfl, rfl⟩ : a0 = ao ∧ n0 = xs.length ∧ c0 = ca := by simpa using hvv
  rw [hxl] at x1 x3 ⊢
  unfold maxLen at x2
  have hb63 : (ds.length : Int) ≤ 9223372036854775807 := by omega
  have hwz := within_any w sz 1 30
  rw [show ((1 : Nat) : Int) = 1 from rfl, show ((30 : Nat) : Int) = 30 from rfl] at hzw
  rw [hzw] at hwz
  have hz63 : (z : Int) ≤ 30 := by omega
  have hz0 : (1 : Int) ≤ (z : Int) := by omega
  have hnw := newd_any w z hz1 (by omega)
  have hnL : (newD z).L.length = z := by simp [newD]
  have hnQ : (newD z).Q = [] := rfl
  have HXS := Lib.hid hxs
  have HXD := Lib.hid hxD
  have HXL := Lib.hid hxl
  have HX3 := Lib.hid x3
  have HNL := Lib.hid hnL
  have HNQ := Lib.hid hnQ
  clear hzw hxs hxD hxl hvv hs63 x3 hnL hnQ
  go_enter Tryz.func3, Tryz.ntmps3
  go_wp2_with (first
    | (go_at_call 5; refine hwz.mono ?_; rintro e w2 ⟨rfl, hw⟩; obtain rfl := hw.symm; clear hw hwz)
    | fail)
  refine hnw.mono ?_
  rintro e w1 ⟨p, FD, rfl, hD, hb1, hF⟩
  clear hnw
  have hxn := xnew_any w1 z hz1 (by omega)
  go_wp2_with fail
  refine hxn.mono ?_
  rintro e w2 ⟨q, GD, rfl, hX, hb2, hGD⟩
  clear hxn
  have hX2 := hX FD hD.lt
  have HX2 := Lib.hid hX2
  have HD := Lib.hid hD
  have HB1 := Lib.hid hb1
  have HB2 := Lib.hid hb2
  have HF := Lib.hid hF
  have HGD := Lib.hid hGD
  clear hX hX2 hD hb1 hb2 hF hGD
  by_cases hr : n < 2 ∨ (z : Int) - 3 < n
  · have ho := open_arg (HD.out.below HB2.out) n (by rw [HNL.out]; exact hr)
    have hzo := zopen_arg HX2.out n (by rw [HNL.out]; exact hr)
    have HBW := Lib.hid (HB1.out.trans (HB2.out.mono HB1.out.size))
    clear hr
    go_wp2_with fail
    refine ho.mono ?_
    rintro e w3 ⟨rfl, hw⟩
    obtain rfl := hw.symm
    clear hw ho
    go_wp2_with fail
    refine hzo.mono ?_
    rintro e w4 ⟨rfl, hw⟩
    obtain rfl := hw.symm
    clear hw hzo
    go_wp2_with fail
    go_loopw [13, 15] (fun yv iv wi => yv = .pointer none ∧ iv = .int .i64 0 ∧ wi = w2) (fun _ _ _ => 0)
    case atStart => exact ⟨rfl, rfl, rfl⟩
    case round =>
      obtain ⟨rfl, rfl, rfl⟩ := hrel
      by_cases hil : 0 < ds.length
      · have hd1 : decide (0 < ds.length) = true := by simp [hil]
        go_wp2_with (first
          | (go_at_call 29; refine (lives_any _).mono ?_; rintro e w8 ⟨rfl, hb8⟩; have HB8 := Lib.hid (HBW.out.trans (hb8.mono HBW.out.size)); clear hb8)
          | fail)
        go_ret
        exact ⟨rfl, HB8.out⟩
      · have hd1 : decide (0 < ds.length) = false := decide_eq_false hil
        go_wp2_with (first
          | (go_at_call 29; refine (lives_any _).mono ?_; rintro e w8 ⟨rfl, hb8⟩; have HB8 := Lib.hid (HBW.out.trans (hb8.mono HBW.out.size)); clear hb8)
          | fail)
        go_ret
        exact ⟨rfl, HB8.out⟩
  · obtain ⟨k, rfl⟩ : ∃ k : Nat, n = k := ⟨n.toNat, (Int.toNat_of_nonneg (by
      rcases Int.lt_or_le n 2 with h | h
      · exact absurd (.inl h) hr
      · omega)).symm⟩
    replace hr : ¬ ((k : Int) < 2) ∧ ¬ ((z : Int) - 3 < (k : Int)) := ⟨fun h => hr (.inl h), fun h => hr (.inr h)⟩
    obtain ⟨hr1, hr2⟩ := hr
    have hk2 : 2 ≤ k := by omega
    have hk3 : k + 3 ≤ z := by omega
    have hk63 : (k : Int) ≤ 30 := by omega
    have ho := open_main (HD.out.below HB2.out) k hk2 (by rw [HNL.out]; exact hk3) (by omega) (by rw [newest_zero _ _ (by omega)]; decide) _ (open_new hk2 hk3)
    clear hr1 hr2 hn63
    go_wp2_with fail
    refine ho.mono ?_
    rintro e w3 ⟨g, F, rfl, hL, hb3, hFn⟩
    obtain ⟨hX3, hmk⟩ := PMem.start (N := z - 2 - k) HD.out HB1.out HF.out HX2.out HB2.out HGD.out hL hb3 hFn
    have hzo := zopen_main hX3 k hk2 (by rw [HNL.out]; exact hk3) _ (open_new hk2 hk3)
    rw [HNL.out] at hzo
    have HMK := Lib.hid hmk
    clear ho hL hb3 hFn hX3 hmk
    go_wp2_with fail
    refine hzo.mono ?_
    rintro e w4 ⟨h, G, S4, rfl, hY, hX4, hb4, s1, s2, s3⟩
    have HR : Hid (PIs w p q k z 0 (.pointer (some ⟨g, 0, none⟩)) (.pointer (some ⟨h, 0, none⟩)) w4) := Lib.hid ⟨g, h, F, FD, S4, G, GD, _, _, rfl, rfl, HMK.out _ _ _ _ hY hX4 hb4 s1 s2 s3, KI.init hk2 hk3 (by omega), HNL.out, by rw [HNQ.out]; exact Nat.zero_le _⟩
    clear hzo hY hX4 hb4 s1 s2 s3 HMK HX2 HD HB1 HB2 HF HGD
    go_wp2_with fail
    go_loopw [11, 13, 15] (fun gv yv iv wi => ∃ i : Nat, i ≤ ds.length ∧ i ≤ 25 ∧ iv = .int .i64 i ∧ PIs w p q k z i gv yv wi) (fun _ _ iv _ => ds.length - (intOf iv).toNat)
    case atStart => exact ⟨0, Nat.zero_le _, Nat.zero_le _, rfl, HR.out⟩
    case round =>
      clear HR
      obtain ⟨i, hi, hi25, rfl, hA⟩ := hrel
      obtain ⟨g, h, F, FD, S, G, GD, l, d, rfl, rfl, hP, hI, hlen, hQ⟩ := hA
      by_cases hin : i < ds.length ∧ i < 25
      · obtain ⟨hil, hi4⟩ := hin
        have hd1 : decide (i < ds.length) = true := by simp [hil]
        have hd2 : decide ((i : Int) < 25) = true := by simp; omega
        obtain ⟨x, hx⟩ : ∃ x, xs[i]? = some x := ⟨_, List.getElem?_eq_getElem (by rw [HXL.out]; exact hil)⟩
        obtain ⟨b4, o4, rfl, hb4, hc4⟩ := HX3.out (by omega)
        have hlx := (hc4 i x hx).below' hP.w hb4
        have hdx := HXD.out x (List.mem_of_getElem? hx)
        obtain ⟨⟨kd, nm, qs, od, kp⟩, ⟨a5, n5, c5⟩, ⟨a6, n6, c6⟩⟩ := x
        have q0 : wr.cell? ⟨b4, o4 + i * 5, none⟩ = some (.int .i64 kd) := hlx 0 (by simp [enDo])
        have q1 : wr.cell? ⟨b4, o4 + i * 5 + 1, none⟩ = some (.int .i64 nm) := hlx 1 (by simp [enDo])
        have q2 : wr.cell? ⟨b4, o4 + i * 5 + 2, none⟩ = some (.slice a5 n5 c5) := hlx 2 (by simp [enDo])
        have q3 : wr.cell? ⟨b4, o4 + i * 5 + 3, none⟩ = some (.bool od) := hlx 3 (by simp [enDo])
        have q4 : wr.cell? ⟨b4, o4 + i * 5 + 4, none⟩ = some (.slice a6 n6 c6) := hlx 4 (by simp [enDo])
        have hqs := (hdx.1.below hP.w).below (Below.refl _ wr).drew
        have hq8 := hdx.2.1
        have hkp := hdx.2.2.1
        have hnm := hdx.2.2.2
        simp only at hqs hq8 hkp hnm
        have hfew := few_any wr.drew _ qs hqs 26 (by omega) od
        have hf8 := few_lt hq8 26 od
        have hfl := few_len qs 26 od
        generalize fewB qs 26 od = ps at *
        rw [show ((26 : Nat) : Int) = 26 from rfl] at hfew
        have hbr : b4 < wr.heap.size := Nat.lt_of_lt_of_le hb4 hP.w.size
        have hkF : 0 < kp.length → ∀ r, (Value.slice a6 n6 c6).ownBlock = some r → r < w.heap.size := fun h0 r hr => by
          obtain ⟨ao, cp, hv, -, -, h3⟩ := hdx.2.2.1
          simp only at h3
          obtain ⟨b, o, rfl, hlt, -⟩ := h3 h0
          have hv : Value.slice a6 n6 c6 = .slice (some ⟨b, o, none⟩) kp.length cp := hv
          rw [hv] at hr
          cases hr
          exact hlt
        have hPd := hP.below (Below.refl _ wr).drew
        have HP := Lib.hid hPd
        have HI := Lib.hid hI
        have HQ := Lib.hid hQ
        have HLN := Lib.hid hlen
        have HF8 := Lib.hid hf8
        have HFL := Lib.hid hfl
        have HKP := Lib.hid hkp
        have HKF := Lib.hid hkF
        have HB4 := Lib.hid hb4
        have HNM := Lib.hid hnm
        have HQ0 := Lib.hid q0
        have HQ1 := Lib.hid q1
        have HQ4 := Lib.hid q4
        have HBR := Lib.hid hbr
        have hS : wr.drew.cell? ⟨b4, o4 + i * 5 + 2, none⟩ = some (.slice a5 n5 c5) ∧ wr.drew.cell? ⟨b4, o4 + i * 5 + 3, none⟩ = some (.bool od) := ⟨q2, q3⟩
        clear hx hP hPd hI hQ hlen hlx hdx hqs hq8 hf8 hfl hc4 hkp hkF hb4 hnm q0 q1 q2 q3 q4 hbr
        go_upto_region 13 with fail
        refine wp_region_x (fun w' => w'.cell? ⟨b4, o4 + i * 5 + 2, none⟩ = some (.slice a5 n5 c5) ∧ w'.cell? ⟨b4, o4 + i * 5 + 3, none⟩ = some (.bool od)) [(0, 1), (1, 1), (2, 1), (3, 1), (4, 0), (5, 1), (6, 1), (7, 1), (8, 1), (9, 0), (10, 2), (11, 1)] (by kernel_rfl) (by kernel_rfl) (by intro d v c a w h; cases d <;> exact h) ?_
        iterate 4 (refine x_take rfl (fun K hK => ?_); go_simp; refine hK _ ?_; clear hK K)
        refine x_read rfl hS (fun w' h => exec_load1 ⟨⟨_, Tryz.underlying37, rfl⟩⟩ rfl h.1) ?_
        iterate 4 (refine x_take rfl (fun K hK => ?_); go_simp; refine hK _ ?_; clear hK K)
        refine x_read rfl hS (fun w' h => exec_load1 ⟨⟨_, Tryz.underlying4, rfl⟩⟩ rfl h.2) ?_
        refine x_show' rfl (fun K hK => ?_)
        go_simp
        refine hfew.mono ?_
        rintro e w4 ⟨v4, rfl, hO4, hb4'⟩
        obtain ⟨a4, n4, c4, rfl⟩ := hO4.shape
        have hbr' : b4 < wr.drew.heap.size := HBR.out
        have hS4 := And.intro ((hb4'.cell (p := ⟨b4, o4 + i * 5 + 2, none⟩) hbr').trans hS.1) ((hb4'.cell (p := ⟨b4, o4 + i * 5 + 3, none⟩) hbr').trans hS.2)
        refine hK _ _ hS4 ?_
        clear hK K hS hS4 hfew
        iterate 1 (refine x_take rfl (fun K hK => ?_); go_simp; refine hK _ ?_; clear hK K)
        refine x_nil ?_
        have r0 : w4.cell? ⟨b4, o4 + i * 5, none⟩ = some (.int .i64 kd) := (hb4'.cell (p := ⟨b4, o4 + i * 5, none⟩) hbr').trans HQ0.out
        have r1 : w4.cell? ⟨b4, o4 + i * 5 + 1, none⟩ = some (.int .i64 nm) := (hb4'.cell (p := ⟨b4, o4 + i * 5 + 1, none⟩) hbr').trans HQ1.out
        have r4 : w4.cell? ⟨b4, o4 + i * 5 + 4, none⟩ = some (.slice a6 n6 c6) := (hb4'.cell (p := ⟨b4, o4 + i * 5 + 4, none⟩) hbr').trans HQ4.out
        have hP4 : PtB w4 S (.slice a4 n4 c4) ps := hO4.b fun b h => .inl (HP.out.lt b h)
        have HPT := Lib.hid hP4
        have HP4 := Lib.hid (HP.out.below hb4')
        have HR1 := Lib.hid r1
        have HR4 := Lib.hid r4
        clear hO4 hP4 HP HQ0 HQ1 HQ4 HBR hbr' hb4' r1 r4
        have hki := HI.out.ok (show i ≤ 1000 by omega)
        have hrn := HI.out.rn
        have hnx := HI.out.nx
        have hep := hki.epoch
        have hgen := hki.gen
        have htl := hki.tail
        have hnt := hki.next
        have her := hki.err
        have hho : l.homes d = z - 2 - k := by
          unfold Lg.homes
          rw [hrn, HLN.out]
        have hn2 : 2 ≤ l.n := by omega
        have hnd : l.n + 3 ≤ d.L.length := by rw [HLN.out, hrn]; exact hk3
        have hnx9 : l.next < 2 ^ 39 := by omega
        have HOK := Lib.hid hki
        have HRN := Lib.hid hrn
        have HHO := Lib.hid hho
        have HND := Lib.hid hnd
        clear hki hrn hho hnd
        go_upto_block 2 with fail
        go_cut [11, 13, 17] (fun gv yv sv wx => sv = .bool true ∧ PIs w p q k z (i + 1) gv yv wx)
        case first =>
          by_cases hk0 : kd = 0
          · subst hk0
            as_aux_lemma =>
            have hwr := gwrite_any HP4.out.L HP4.out.D HP4.out.ap HOK.out _ ps (HPT.out.sub HP4.out.sub).a HF8.out (by have := HFL.out; omega) (by have := HQ.out; omega)
            obtain ⟨cd, hcd⟩ : ∃ cd, (l.write d ps).2.2 = cd := ⟨_, rfl⟩
            have HCD := Lib.hid hcd
            clear hcd
            unfold GPost at hwr
            rw [HCD.out] at hwr
            go_wp2_with fail
            refine hwr.mono ?_
            rintro e w5 ⟨rfl, F5, FD5, hL5, hD5, hm5, hF5, hFD5, hFF5⟩
            have hP5 := HP4.out.prog hL5 hD5 hm5 hF5 hFD5 hFF5
            have hpt := HPT.out.turn (S' := fun b => S b ∨ F5 b ∨ FD5 b) hm5 HP4.out.sub (fun b hb => by
              rcases hb with hb | hb | hb
              · exact .inl hb
              · exact (hF5 b hb).imp (fun h => HP4.out.sub b (.inl h)) id
              · exact (hFD5 b hb).imp (fun h => HP4.out.sub b (.inr h)) id)
            have hzw := zwrite_any hP5.Y hP5.X hP5.apx HHO.out hn2 HND.out hep htl hnt hnx9 her (by have := HQ.out; omega) _ ps hpt HF8.out
            rw [HCD.out] at hzw
            have HP5 := Lib.hid hP5
            have hdk := HI.out.write (show i ≤ 1000 by omega) HF8.out hD5.ok
            have HDK := Lib.hid hdk
            clear hwr hL5 hD5 hm5 hF5 hFD5 hFF5 hP5 hpt hdk r0
            go_wp2_with fail
            refine hzw.mono ?_
            rintro e w6 ⟨rfl, S6, GD6, hY6, hX6, t6⟩
            have hP6 := HP5.out.docu hY6 hX6 t6.two
            have HP6 := Lib.hid hP6
            have hcc : ((cd : Int) == (cd : Int)) = true := beq_self_eq_true _
            clear hzw hY6 hX6 t6 hP6
            have hQ6 := lwrite_Q (l := l) (d := d) (ps := ps)
            have HQ6 := Lib.hid hQ6
            clear hQ6
            go_wp2
            go_meet
            case rel => exact ⟨rfl, g, h, _, _, _, _, _, _, _, rfl, rfl, HP6.out, HDK.out, HQ6.out.2.trans HLN.out, by have := HQ6.out.1; have := HQ.out; omega⟩
          · have e0 : (kd == 0) = false := by simp [hk0]
            by_cases hk1 : kd = 1
            · subst hk1
              as_aux_lemma =>
              have hsy := sync_any HP4.out.L HP4.out.D HP4.out.ap
              obtain ⟨cd, hcd⟩ : ∃ cd, (l.sync d).1.err = cd := ⟨_, rfl⟩
              have HCD := Lib.hid hcd
              clear hcd
              rw [HCD.out] at hsy
              go_wp2_with fail
              refine hsy.mono ?_
              rintro e w5 ⟨rfl, hL5, hD5, hm5⟩
              have hP5 := HP4.out.prog hL5 hD5 hm5 (fun _ h => .inl h) (fun _ h => .inl h) HP4.out.ap
              have hzw := zsync_any hP5.Y hP5.X hP5.apx her
              rw [HCD.out] at hzw
              have HP5 := Lib.hid hP5
              have HDK := Lib.hid (HI.out.sync hD5.ok)
              clear hsy hL5 hD5 hm5 hP5 r0
              go_wp2_with fail
              refine hzw.mono ?_
              rintro e w6 ⟨rfl, hY6, hX6, hm6⟩
              have HP6 := Lib.hid (HP5.out.docu hY6 hX6 (LTo.of_mod _ HP5.out.apx hm6).two)
              have hcc : ((cd : Int) == (cd : Int)) = true := beq_self_eq_true _
              have HQ6 := Lib.hid (lsync_Q (l := l) (d := d))
              clear hzw hY6 hX6 hm6
              go_wp2
              go_meet
              case rel => exact ⟨rfl, g, h, _, _, _, _, _, _, _, rfl, rfl, HP6.out, HDK.out, HQ6.out.2.trans HLN.out, by have := HQ6.out.1; have := HQ.out; omega⟩
            · have e1 : (kd == 1) = false := by simp [hk1]
              by_cases hk2' : kd = 2
              · subst hk2'
                as_aux_lemma =>
                have hck := check_any HP4.out.L HP4.out.D HP4.out.ap HOK.out (by have := HQ.out; omega)
                obtain ⟨cd, hcd⟩ : ∃ cd, (l.check d).2.2 = cd := ⟨_, rfl⟩
                have HCD := Lib.hid hcd
                clear hcd
                unfold GPost at hck
                rw [HCD.out] at hck
                go_wp2_with fail
                refine hck.mono ?_
                rintro e w5 ⟨rfl, F5, FD5, hL5, hD5, hm5, hF5, hFD5, hFF5⟩
                have hP5 := HP4.out.prog hL5 hD5 hm5 hF5 hFD5 hFF5
                have hzw := zcheck_any hP5.Y hP5.X hP5.apx HHO.out hn2 HND.out hep hgen hnx9 her (by have := HQ.out; omega) (fun j b hb => (HOK.out.H j b hb).2)
                rw [HCD.out] at hzw
                have HP5 := Lib.hid hP5
                have HDK := Lib.hid (HI.out.check (show i ≤ 1000 by omega) hD5.ok)
                clear hck hL5 hD5 hm5 hF5 hFD5 hFF5 hP5 r0
                go_wp2_with fail
                refine hzw.mono ?_
                rintro e w6 ⟨rfl, S6, G6, GD6, hY6, hX6, t6⟩
                have HP6 := Lib.hid (HP5.out.docu hY6 hX6 t6)
                have hcc : ((cd : Int) == (cd : Int)) = true := beq_self_eq_true _
                have HQ6 := Lib.hid (lcheck_Q (l := l) (d := d) HP4.out.D.ok.hi)
                clear hzw hY6 hX6 t6
                go_wp2
                go_meet
                case rel => exact ⟨rfl, g, h, _, _, _, _, _, _, _, rfl, rfl, HP6.out, HDK.out, HQ6.out.2.trans HLN.out, by have := HQ6.out.1; have := HQ.out; omega⟩
              · have e2 : (kd == 2) = false := by simp [hk2']
                have hbF : ∀ b, S b → b4 ≠ b := fun b hb e => absurd (HP4.out.low b hb) (Nat.not_le.2 (e ▸ HB4.out))
                have HBF := Lib.hid hbF
                clear hbF
                by_cases hk3' : kd = 3
                · subst hk3'
                  as_aux_lemma =>
                  go_upto_region 28 with fail
                  have hS : w4.drew.cell? ⟨b4, o4 + i * 5 + 1, none⟩ = some (.int .i64 nm) := HR1.out
                  clear r0
                  refine wp_region_x (fun w' => w'.cell? ⟨b4, o4 + i * 5 + 1, none⟩ = some (.int .i64 nm)) [(0, 1), (1, 1), (2, 1), (3, 1), (4, 1), (5, 0), (7, 1), (8, 1), (9, 1), (10, 1), (11, 1), (12, 0), (6, 2), (13, 2), (14, 1), (15, 1)] (by kernel_rfl) (by kernel_rfl) (by intro d v c a w h; cases d <;> exact h) ?_
                  iterate 5 (refine x_take rfl (fun K hK => ?_); go_simp; refine hK _ ?_; clear hK K)
                  refine x_read rfl hS (fun w' h => exec_load1 ⟨⟨_, Tryz.underlying3, rfl⟩⟩ rfl h) ?_
                  iterate 5 (refine x_take rfl (fun K hK => ?_); go_simp; refine hK _ ?_; clear hK K)
                  refine x_read rfl hS (fun w' h => exec_load1 ⟨⟨_, Tryz.underlying3, rfl⟩⟩ rfl h) ?_
                  refine x_show' rfl (fun K hK => ?_)
                  go_simp
                  have hPd := HP4.out.below (Below.refl _ _).drew
                  have hfu := fuse_any hPd.D nm HNM.out
                  obtain ⟨cd, hcd⟩ : ∃ cd, d.armE nm = cd := ⟨_, rfl⟩
                  rw [hcd] at hfu
                  refine hfu.mono ?_
                  rintro e w5 ⟨rfl, hD5, hm5⟩
                  have hP5 := hPd.pdisk hD5 hm5
                  have hS5 := cell_mod hS hm5 (fun e => HBF.out b4 (HP4.out.sub b4 (.inr e)) rfl)
                  refine hK _ _ hS5 ?_
                  clear hK K hS hfu hPd hD5 hm5
                  refine x_show' rfl (fun K hK => ?_)
                  go_simp
                  have hxa := xarm_any hP5.X nm HNM.out
                  rw [hcd] at hxa
                  refine hxa.mono ?_
                  rintro e w6 ⟨rfl, hX6, hm6⟩
                  have hS6 := cell_mod hS5 hm6 (fun e => absurd (hP5.low q (hP5.X.fs q hP5.X.fp)) (Nat.not_le.2 (by
                    have e : b4 = q := e
                    rw [← e]
                    exact HB4.out)))
                  refine hK _ _ hS6 ?_
                  have HP6 := Lib.hid (hP5.xdisk hX6 (hm6.mono fun x _ hx => by
                    have hx : x = q := hx
                    rw [hx]
                    exact hP5.X.fp))
                  have hcc : ((cd : Int) == (cd : Int)) = true := beq_self_eq_true _
                  clear hK K hS5 hS6 hxa hP5 hX6 hm6 hcd
                  iterate 2 (refine x_take rfl (fun K hK => ?_); go_simp; refine hK _ ?_; clear hK K)
                  refine x_nil ?_
                  go_wp2
                  go_meet
                  case rel => exact ⟨rfl, g, h, _, _, _, _, _, _, _, rfl, rfl, HP6.out, HI.out.arm HNM.out, by rw [(arm_L d nm).1]; exact HLN.out, by rw [(arm_L d nm).2]; have := HQ.out; omega⟩
                · have e3 : (kd == 3) = false := by simp [hk3']
                  as_aux_lemma =>
                  go_upto_region 16 with fail
                  have hS : w4.drew.cell? ⟨b4, o4 + i * 5 + 4, none⟩ = some (.slice a6 n6 c6) ∧ w4.drew.cell? ⟨b4, o4 + i * 5 + 1, none⟩ = some (.int .i64 nm) := ⟨HR4.out, HR1.out⟩
                  clear r0
                  refine wp_region_x (fun w' => w'.cell? ⟨b4, o4 + i * 5 + 4, none⟩ = some (.slice a6 n6 c6) ∧ w'.cell? ⟨b4, o4 + i * 5 + 1, none⟩ = some (.int .i64 nm)) [(0, 1), (1, 1), (2, 1), (3, 1), (4, 1), (5, 0), (6, 1), (7, 1), (8, 1), (9, 1), (10, 0), (11, 2)] (by kernel_rfl) (by kernel_rfl) (by intro d v c a w h; cases d <;> exact h) ?_
                  iterate 5 (refine x_take rfl (fun K hK => ?_); go_simp; refine hK _ ?_; clear hK K)
                  refine x_read rfl hS (fun w' h => exec_load1 ⟨⟨_, Tryz.underlying39, rfl⟩⟩ rfl h.1) ?_
                  iterate 4 (refine x_take rfl (fun K hK => ?_); go_simp; refine hK _ ?_; clear hK K)
                  refine x_read rfl hS (fun w' h => exec_load1 ⟨⟨_, Tryz.underlying3, rfl⟩⟩ rfl h.2) ?_
                  refine x_show' rfl (fun K hK => ?_)
                  go_simp
                  have hPd := HP4.out.below (Below.refl _ _).drew
                  refine (dcrash_any hPd.D _ kp (HKP.out.below hPd.w) (fun h0 r hr e => absurd (HP4.out.low r (HP4.out.sub r (.inr e))) (Nat.not_le.2 (HKF.out h0 r hr))) nm).mono ?_
                  rintro e w5 ⟨rfl, hD5, hm5⟩
                  have hP5 := hPd.pdisk hD5 hm5
                  have hS5 := And.intro (cell_mod hS.1 hm5 (fun e => HBF.out b4 (HP4.out.sub b4 (.inr e)) rfl)) (cell_mod hS.2 hm5 (fun e => HBF.out b4 (HP4.out.sub b4 (.inr e)) rfl))
                  refine hK _ _ hS5 ?_
                  clear hK K hS hPd hD5 hm5
                  refine x_nil ?_
                  have HP5 := Lib.hid hP5
                  have HS5 := Lib.hid hS5
                  clear hP5 hS5
                  go_upto_region 17 with fail
                  have hS : w5.drew.cell? ⟨b4, o4 + i * 5 + 4, none⟩ = some (.slice a6 n6 c6) ∧ w5.drew.cell? ⟨b4, o4 + i * 5 + 1, none⟩ = some (.int .i64 nm) := HS5.out
                  refine wp_region_x (fun w' => w'.cell? ⟨b4, o4 + i * 5 + 4, none⟩ = some (.slice a6 n6 c6) ∧ w'.cell? ⟨b4, o4 + i * 5 + 1, none⟩ = some (.int .i64 nm)) [(0, 1), (1, 1), (2, 1), (3, 1), (4, 1), (5, 0), (6, 1), (7, 1), (8, 1), (9, 1), (10, 0), (11, 2)] (by kernel_rfl) (by kernel_rfl) (by intro d v c a w h; cases d <;> exact h) ?_
                  iterate 5 (refine x_take rfl (fun K hK => ?_); go_simp; refine hK _ ?_; clear hK K)
                  refine x_read rfl hS (fun w' h => exec_load1 ⟨⟨_, Tryz.underlying39, rfl⟩⟩ rfl h.1) ?_
                  iterate 4 (refine x_take rfl (fun K hK => ?_); go_simp; refine hK _ ?_; clear hK K)
                  refine x_read rfl hS (fun w' h => exec_load1 ⟨⟨_, Tryz.underlying3, rfl⟩⟩ rfl h.2) ?_
                  refine x_show' rfl (fun K hK => ?_)
                  go_simp
                  have hPd := HP5.out.below (Below.refl _ _).drew
                  refine (xcrash_any hPd.X _ kp (HKP.out.below hPd.w) (fun h0 r hr e => absurd (hPd.low r (hPd.X.fs r e)) (Nat.not_le.2 (HKF.out h0 r hr))) nm).mono ?_
                  rintro e w6 ⟨rfl, hX6, hm6⟩
                  have hP6 := hPd.xdisk hX6 hm6
                  have hb4G : ¬ GD b4 := fun e => absurd (hPd.low b4 (hPd.X.fs b4 e)) (Nat.not_le.2 HB4.out)
                  have hS6 := And.intro (cell_mod hS.1 hm6 hb4G) (cell_mod hS.2 hm6 hb4G)
                  refine hK _ _ hS6 ?_
                  clear hK K hS hPd hX6 hm6 HS5
                  refine x_nil ?_
                  obtain ⟨l6, ho6, hnew, hI6⟩ := HI.out.crash HP4.out.D.ok hk2 (by rw [HLN.out]; exact hk3) (by omega) kp nm
                  have hcL : (d.crash kp nm).L.length = z := by rw [crash_L, HLN.out]
                  have hcQ := crash_Q d kp nm
                  obtain ⟨d6, hd6⟩ : ∃ d6, d.crash kp nm = d6 := ⟨_, rfl⟩
                  rw [hd6] at hP6 ho6 hnew hI6 hcL hcQ
                  have hop := open_main hP6.D k hk2 (by omega) (by omega) hnew l6 ho6
                  have HP6 := Lib.hid hP6
                  have HI6 := Lib.hid hI6
                  have HO6 := Lib.hid ho6
                  have HCL := Lib.hid hcL
                  have HCQ := Lib.hid hcQ
                  clear hd6 hS6 hb4G hP6 hI6 ho6 hnew hcL hcQ
                  go_wp2_with fail
                  refine hop.mono ?_
                  rintro e w7 ⟨g7, F7, rfl, hL7, hb7, hG7⟩
                  have hP7 := HP6.out.reopen hL7 hb7 hG7
                  have hzo := zopen_main hP7.X k hk2 (by rw [HCL.out]; exact hk3) l6 HO6.out
                  rw [HCL.out] at hzo
                  have HP7 := Lib.hid hP7
                  clear hop hL7 hb7 hG7 hP7
                  go_wp2_with fail
                  refine hzo.mono ?_
                  rintro e w8 ⟨h8, G8, S8, rfl, hY8, hX8, hb8, s1, s2, s3⟩
                  have HP8 := Lib.hid (HP7.out.reopenX hY8 hX8 hb8 s1 s2 s3)
                  clear hzo hY8 hX8 hb8 s1 s2 s3
                  go_wp2
                  go_meet
                  case rel => exact ⟨rfl, g7, h8, _, _, _, _, _, _, _, rfl, rfl, HP8.out, HI6.out, HCL.out, by rw [HCQ.out]; exact Nat.zero_le _⟩
        case rest =>
          clear HP4 HPT HR1 HR4 HQ HLN HF8 HFL HKP HKF HB4 HNM HOK HRN HHO HND HI
          clear r0 hnx hep hgen htl hnt her hn2 hnx9
          obtain ⟨rfl, g2, h2, F2, FD2, S2, G2, GD2, l2, d2, rfl, rfl, hP2, hI2, hlen2, hQ2⟩ := hcut
          have hki := hI2.ok (show i + 1 ≤ 1000 by omega)
          have hrn := hI2.rn
          have hnx := hI2.nx
          have htl := hki.tail
          have hnt := hki.next
          have hho : l2.homes d2 = z - 2 - k := by
            unfold Lg.homes
            rw [hrn, hlen2]
          have hN30 : z - 2 - k ≤ 30 := by omega
          have hnN : 2 + l2.n + (z - 2 - k) ≤ d2.L.length := by rw [hlen2, hrn]; omega
          obtain ⟨N, hN⟩ : ∃ N, z - 2 - k = N := ⟨_, rfl⟩
          rw [hN] at hP2 hho hN30 hnN
          obtain ⟨hv, ys, hh, hOy, hyN, -, -⟩ := hP2.Y.ex
          obtain ⟨ya, yc, rfl, -, -, -⟩ := hOy.sl elB.len
          rw [hyN] at hh
          have c6 := cell_of (o := 6) hh rfl
          have hhl := lt_of_block hh
          have hl30 : l2.n ≤ 30 := by omega
          have HP2 := Lib.hid hP2
          have HI2 := Lib.hid hI2
          have HK2 := Lib.hid hki
          have HL2 := Lib.hid hlen2
          have HQ2 := Lib.hid hQ2
          have HHO := Lib.hid hho
          have HN := Lib.hid hN
          have HNN := Lib.hid hnN
          have HC6 := Lib.hid c6
          have HRN := Lib.hid hrn
          clear hP2 hI2 hki hlen2 hQ2 hho hN hnN hh hOy hyN c6 hrn
          go_upto_region 29 with fail
          have hS : Below wc.heap.size wc wc.drew := (Below.refl _ _).drew
          have hcc : (((N : Nat) : Int) != ((N : Nat) : Int)) = false := bne_self_eq_false _
          obtain ⟨fr, hfr⟩ : ∃ fr, l2.free = fr := ⟨_, rfl⟩
          have hcf : (((fr : Nat) : Int) != ((fr : Nat) : Int)) = false := bne_self_eq_false _
          refine wp_region_g (fun w' => Below wc.heap.size wc w') [(0, 1), (1, 1), (2, 1), (3, 1), (5, 1), (6, 1), (7, 1), (8, 0), (9, 1), (4, 2), (10, 1), (11, 1), (12, 1), (13, 1), (15, 1), (14, 2), (16, 2), (17, 1), (18, 1)] (by kernel_rfl) (by kernel_rfl) (by intro d v c a w h; cases d <;> exact h) ?_
          iterate 3 (refine g_take rfl rfl (fun K hK => ?_); go_simp; refine hK _ ?_; clear hK K)
          iterate 4 (refine g_take rfl rfl (fun K hK => ?_); go_simp; refine hK _ ?_; clear hK K)
          refine g_read rfl rfl hS (fun w' h => exec_load1 ⟨⟨_, Tryz.underlying50, rfl⟩⟩ rfl ((h.cell (p := ⟨h2, 6, none⟩) hhl).trans HC6.out)) ?_
          iterate 1 (refine g_take rfl rfl (fun K hK => ?_); go_simp; refine hK _ ?_; clear hK K)
          refine g_show' rfl rfl (fun K hK => ?_)
          go_simp
          have hhm := homes_any (HP2.out.below hS).L (HP2.out.below hS).D (by rw [HL2.out, HRN.out]; exact hk3)
          rw [HHO.out] at hhm
          refine hhm.mono ?_
          rintro e w5 ⟨rfl, hb5⟩
          have hS5 := hS.trans (hb5.mono hS.size)
          refine hK _ _ hS5 ?_
          clear hK K hS hhm hb5
          iterate 1 (refine g_take rfl rfl (fun K hK => ?_); go_simp; refine hK _ ?_; clear hK K)
          iterate 2 (refine g_take rfl rfl (fun K hK => ?_); go_simp; refine hK _ ?_; clear hK K)
          iterate 2 (refine g_take rfl rfl (fun K hK => ?_); go_simp; refine hK _ ?_; clear hK K)
          refine g_show' rfl rfl (fun K hK => ?_)
          go_simp
          have hfa := free_any (HP2.out.below hS5).L htl hnt (by omega) (by omega)
          rw [hfr] at hfa
          refine hfa.mono ?_
          rintro e w6 ⟨rfl, hb6⟩
          have hS6 := hS5.trans (hb6.mono hS5.size)
          refine hK _ _ hS6 ?_
          clear hK K hS5 hfa hb6
          refine g_show' rfl rfl (fun K hK => ?_)
          go_simp
          have hfz := zfree_any (HP2.out.below hS6).Y htl hnt (by omega) (by omega)
          rw [hfr] at hfz
          refine hfz.mono ?_
          rintro e w7 ⟨rfl, hb7⟩
          have hS7 := hS6.trans (hb7.mono hS6.size)
          refine hK _ _ hS7 ?_
          clear hK K hS6 hfz hb7
          iterate 1 (refine g_take rfl rfl (fun K hK => ?_); go_simp; refine hK _ ?_; clear hK K)
          iterate 1 (refine g_take rfl rfl (fun K hK => ?_); go_simp; refine hK _ ?_; clear hK K)
          refine g_nil ?_
          have HS7 := Lib.hid hS7
          clear hS7 hfr hcc hcf
          go_wp2_with fail
          go_loopw [18] (fun jv wi => ∃ j : Nat, j ≤ z ∧ jv = .int .i64 j ∧ Below wc.heap.size wc wi) (fun jv _ => z - (intOf jv).toNat)
          case atStart => exact ⟨0, Nat.zero_le _, rfl, HS7.out⟩
          case round =>
            clear HS7
            obtain ⟨j, hj, rfl, hbj⟩ := hrel
            have hPj := HP2.out.below hbj
            by_cases hjl : j < z
            · have hdj : decide (j < z) = true := decide_eq_true hjl
              have hdj2 : decide ((j : Int) < (z : Int)) = true := decide_eq_true (by omega)
              have hrd := dread_any hPj.D j (by rw [HL2.out]; exact hjl)
              have HPJ := Lib.hid hPj
              have HBJ := Lib.hid hbj
              clear hPj hbj
              go_wp2_with fail
              refine hrd.mono ?_
              rintro e w5 ⟨v5, rfl, hR5, hb5⟩
              obtain ⟨va, vc, rfl, -, -, -⟩ := id hR5.sl
              have his := xis_any (HPJ.out.below hb5).X j (by rw [HL2.out]; exact hjl)
              have HR5 := Lib.hid hR5.sl
              have HB5 := Lib.hid (HBJ.out.trans (hb5.mono HBJ.out.size))
              clear hrd hR5 hb5
              go_wp2_with fail
              refine his.mono ?_
              rintro e w6 ⟨⟨s6, rfl, hdat⟩, hw⟩
              obtain rfl := hw.symm
              have hsm := rsame_any w5 _ _ _ _ HR5.out hdat.rd
              rw [decide_eq_true rfl] at hsm
              clear his hdat hw
              go_wp2_with fail
              refine hsm.mono ?_
              rintro e w7 ⟨rfl, hb7⟩
              have HB7 := Lib.hid (HB5.out.trans (hb7.mono HB5.out.size))
              clear hsm hb7
              go_wp2
              go_roundw
              case rel => exact ⟨j + 1, by omega, by go_num, HB7.out⟩
              case measure => simp only [intOf]; omega
            · obtain rfl : j = z := by omega
              have hdj : decide (j < j) = false := by simp
              have hdj2 : decide ((j : Int) < (j : Int)) = false := by simp
              have HBJ := Lib.hid hbj
              clear hPj hbj
              go_wp2_with fail
              go_loopw [21] (fun mv wi => ∃ m : Nat, m ≤ N ∧ mv = .int .i64 m ∧ Below wc.heap.size wc wi) (fun mv _ => N - (intOf mv).toNat)
              case atStart => exact ⟨0, Nat.zero_le _, rfl, HBJ.out⟩
              case round =>
                clear HBJ
                obtain ⟨m, hm, rfl, hbm⟩ := hrel
                have hPm := HP2.out.below hbm
                have c6 := (hbm.cell (p := ⟨h2, 6, none⟩) hhl).trans HC6.out
                by_cases hml : m < N
                · have hdm : decide (m < N) = true := decide_eq_true hml
                  have hdm2 : decide ((m : Int) < (N : Int)) = true := decide_eq_true (by omega)
                  have hrd := gread_any hPm.L hPm.D HK2.out m (by rw [HHO.out]; exact hml)
                  have HPM := Lib.hid hPm
                  have HBM := Lib.hid hbm
                  clear hPm hbm
                  go_wp2_with fail
                  refine hrd.mono ?_
                  rintro e w5 ⟨v5, rfl, hR5, hb5⟩
                  obtain ⟨va, vc, rfl, -, -, -⟩ := id hR5.sl
                  have hzh := zhome_any (HPM.out.below hb5).Y (HPM.out.below hb5).X (fun a b hb => (HK2.out.H a b hb).2.1) m hml HNN.out
                  have HR5 := Lib.hid hR5.sl
                  have HB5 := Lib.hid (HBM.out.trans (hb5.mono HBM.out.size))
                  clear hrd hR5 hb5 c6
                  go_wp2_with fail
                  refine hzh.mono ?_
                  rintro e w6 ⟨⟨s6, rfl, hdat⟩, hb6⟩
                  have hsm := rsame_any w6 _ _ _ _ (HR5.out.below hb6) (hdat.rd.below hb6)
                  rw [decide_eq_true rfl] at hsm
                  have HB6 := Lib.hid (HB5.out.trans (hb6.mono HB5.out.size))
                  clear hzh hdat hb6
                  go_wp2_with fail
                  refine hsm.mono ?_
                  rintro e w7 ⟨rfl, hb7⟩
                  have HB7 := Lib.hid (HB6.out.trans (hb7.mono HB6.out.size))
                  clear hsm hb7
                  go_wp2
                  go_roundw
                  case rel => exact ⟨m + 1, by omega, by go_num, HB7.out⟩
                  case measure => simp only [intOf]; omega
                · obtain rfl : m = N := by omega
                  have hdm : decide (m < m) = false := by simp
                  have hdm2 : decide ((m : Int) < (m : Int)) = false := by simp
                  have HPM := Lib.hid hPm
                  clear hPm hbm
                  go_wp2
                  go_roundw
                  case rel => exact ⟨i + 1, by omega, by omega, by go_num, g2, h2, F2, FD2, S2, G2, GD2, l2, d2, rfl, rfl, by rw [HN.out]; exact HPM.out, HI2.out, HL2.out, HQ2.out⟩
                  case measure => simp only [intOf]; omega
      · have HBW := Lib.hid hP.w
        clear hP hI hlen hQ
        by_cases hil : i < ds.length
        · have hd1 : decide (i < ds.length) = true := by simp [hil]
          have hd2 : decide ((i : Int) < 25) = false := by simp; omega
          go_wp2_with (first
            | (go_at_call 29; refine (lives_any _).mono ?_; rintro e w8 ⟨rfl, hb8⟩; have HB8 := Lib.hid (HBW.out.trans (hb8.mono HBW.out.size)); clear hb8)
            | fail)
          go_ret
          exact ⟨rfl, HB8.out⟩
        · have hd1 : decide (i < ds.length) = false := by simp; omega
          go_wp2_with (first
            | (go_at_call 29; refine (lives_any _).mono ?_; rintro e w8 ⟨rfl, hb8⟩; have HB8 := Lib.hid (HBW.out.trans (hb8.mono HBW.out.size)); clear hb8)
            | fail)
          go_ret
          exact ⟨rfl, HB8.out⟩
end Go.Proofs.YtmakpbjknklpiaaGreat

/- Proved: RedoPlays returns true and its arguments read as they did. No condition: of all numbers and calls. -/
namespace Go.Proofs.YtmakpbjknklpiaaGreat
open Go.ChangeShapes Go.WideShapes Go.ChangeAt Go.RowKit Go.Tn Go.Joins

set_option maxRecDepth 100000 in
theorem plays_lifted (os : Os) (started : os.Started) (H : Type) (enc : TypeId × Value → H) :
    ReturnsInHanded {} Tryz.checked os 3 .any (Rows.redoPlaysSpec.pre6 enc Tryz.prog Tryz.f3 Rows.redoPlaysRow.domain false) (Rows.redoPlaysSpec.post enc Tryz.prog Tryz.f3 false true false false) := by
  refine returnsInHanded_of_change (C := Tryz.checked) Tryz.own started (by kernel_rfl) Tryz.func3
    (ChangeSpec.witness6 (enc := enc) (C := Tryz.checked) false ⟨#[], #[.int .i64 0, .int .i64 0, .slice none 0 0], []⟩ 8 (by kernel_rfl) (by kernel_rfl) (by kernel_rfl) (by kernel_rfl)) ?_
  intro W base args ds gs before hval0 hW hcnd _
  have hval : ∀ (j : Nat) t v, Tryz.f3.params[j]? = some t → args[j]? = some v → Value.okWide Tryz.prog W .any base t v := hval0
  have hW' := hW
  obtain ⟨p, q, hA0, hV, rfl, hfz, hnd⟩ := hW
  have hA : DataW.TrodAll enc Tryz.prog W 0 (fun _ => true) true Tryz.f3.params.toList args.toList ds p := hA0
  rw [Tryz.params3] at hA hval
  obtain ⟨v0, vs0, d0, ds0, p0, q0, hargs, rfl, rfl, h0, r0⟩ := trodAll_cons hA
  obtain ⟨v1, vs1, d1, ds1, p1, q1, rfl, rfl, rfl, h1, r1⟩ := trodAll_cons r0
  obtain ⟨v2, vs2, d2, ds2, p2, q2, rfl, rfl, rfl, h2, r2⟩ := trodAll_cons r1
  obtain ⟨rfl, rfl, rfl⟩ := trodAll_nil r2
  obtain rfl : args = #[v0, v1, v2] := by cases args; simp_all
  obtain ⟨rfl, rfl⟩ := trodVars_none hV
  obtain ⟨a0, rfl, rfl, rfl, w0⟩ := open_int Tryz.underlying3 (hval 0 3 v0 rfl rfl) h0
  obtain ⟨a1, rfl, rfl, rfl, w1⟩ := open_int Tryz.underlying3 (hval 1 3 v1 rfl rfl) h1
  obtain ⟨a2, len2, cap2, rfl⟩ := okWide_slice Tryz.underlying22 (hval 2 22 v2 rfl rfl)
  have k2 := h2
  have lt2 : ∀ x ∈ p2, x.block < W.heap.size := by obtain ⟨m, hm⟩ := k2; exact DataW.trod_lt m _ _ _ hm
  obtain ⟨es, hes⟩ := dos_of h2
  clear hA0 hval0
  have r0' := wf_i64_bounds w0
  have r1' := wf_i64_bounds w1
  refine (plays_walk W a0 a1 _ es hes ⟨r1'.1, by omega⟩ ⟨r0'.1, by omega⟩).mono fun e W' ⟨he, bel⟩ => ?_
  subst he
  exact ⟨_, rfl, _, _, _, [], _, [], hW', trodAll_mk1 (shut_bool Tryz.underlying4 _), (trodAll_cons_mk (shut_int Tryz.underlying3 w0) (trodAll_cons_mk (shut_int Tryz.underlying3 w1) (trodAll_cons_mk (Below.trod Tryz.laidOut (by kernel_rfl) (of_decide_eq_true (by kernel_rfl)) k2 bel lt2) trodAll_mk0))), rfl, bel.frame _, fun h => by cases h⟩
theorem plays_holds : Rows.RedoPlaysSaid :=
  OpenClaim.holds_of_wide 3 Tryz.f3 rfl rfl rfl rfl rfl rfl rfl ⟨rfl, rfl, rfl, rfl, rfl⟩ rfl rfl rfl rfl rfl (by kernel_rfl) Tryz.func3 (by kernel_rfl)
    (of_decide_eq_true (by kernel_rfl)) (by unfold Func.isWrapper; first | (rw [if_pos (by decide +kernel)]; kernel_rfl) | (rw [if_neg (by decide +kernel)]; exact ⟨rfl, rfl⟩))
    (fun os started H enc _ => plays_lifted os started H enc)
end Go.Proofs.YtmakpbjknklpiaaGreat
