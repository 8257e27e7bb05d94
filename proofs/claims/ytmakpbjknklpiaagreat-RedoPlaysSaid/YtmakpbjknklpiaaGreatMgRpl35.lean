/- The document's Checkpoint: plain. -/
import Derived.Test.YtmakpbjknklpiaaGreatMgRpl34
import Derived.Test.YtmakpbjknklpiaaGreatMgRpl22
/- The document's Write of a log, walked. -/
namespace Go.Proofs.YtmakpbjknklpiaaGreat
open Go.RowKit Go.Tn Go.Tn.Bt Go.Tn.Lp Go.Tn.Dk
theorem PtB.i {w : World} {S : Nat → Prop} {v : Value} {ps : List Pt} (h : PtB w S v ps) : PtsI w v ps := by
  obtain ⟨xs, h1, h2, -, h4⟩ := h
  exact ⟨xs, h1, h2, fun x hx => (h4 x hx).1⟩
set_option maxRecDepth 20000 in
set_option maxHeartbeats 8000000 in
theorem zwrite_any {w : World} {S F FD : Nat → Prop} {g p N : Nat} {l : Lg} {d : Dsk} (h : RLg w S F g p l N) (hd : RDk w S FD p d) (hap : ∀ b, F b → ¬ FD b) (hN : l.homes d = N) (hn2 : 2 ≤ l.n) (hnd : l.n + 3 ≤ d.L.length) (hep : l.epoch ≤ 16777215) (ht : l.tail ≤ l.next) (htn : l.next ≤ l.tail + l.n) (hnx : l.next < 2 ^ 39) (herr : l.err < 256) (hq : d.Q.length ≤ 900000000) (v : Value) (ps : List Pt) (hp : PtB w S v ps) (hb8 : ∀ p ∈ ps, ∀ x ∈ p.2, x < 256) :
    Calls Tryz.prog 12 #[.pointer (some ⟨g, 0, none⟩), v] w fun e w' => e = .returned (.int .i64 ((l.write d ps).2.2 : Nat)) ∧ ∃ S' FD', RLg w' S' F g p (l.write d ps).1 N ∧ RDk w' S' FD' p (l.write d ps).2.1 ∧ LTo w w' S F FD S' FD' := by
  have hhi := hd.ok.hi
  have hN4 : N ≤ 4096 := by rw [← hN]; unfold Lg.homes; omega
  obtain ⟨a0, n0, c0, rfl⟩ : ∃ a n c, v = .slice a n c := by
    obtain ⟨xs, -, ⟨ao, cap, rfl, -⟩, -⟩ := hp
    exact ⟨_, _, _, rfl⟩
  have his := ris_any w _ ps hp.i N (by omega)
  obtain ⟨hv, xs, hh, h2, h3, -⟩ := h.ex
  obtain ⟨ha, hc, rfl, -, -, -⟩ := h2.sl elB.len
  rw [h3] at hh
  have k0 := cell_of (o := 0) hh rfl
  have k1 := cell_of (o := 1) hh rfl
  have k2 := cell_of (o := 2) hh rfl
  have k5 := cell_of (o := 5) hh rfl
  have k6 := cell_of (o := 6) hh rfl
  have k7 := cell_of (o := 7) hh rfl
  have hgw := lt_of_block hh
  have HL := Lib.hid h
  have HD := Lib.hid hd
  have HAP := Lib.hid hap
  have HP := Lib.hid hp
  have HB8 := Lib.hid hb8
  have hN63 : (N : Int) ≤ 4096 := by omega
  clear h hd hap hp hb8 hh h2 h3
  by_cases he : l.err = 0
  rotate_left
  · have e1 : l.write d ps = (l, d, l.err) := by unfold Lg.write; rw [if_pos he]
    have hne : (((l.err : Nat) : Int) != 0) = true := by rw [bne_iff_ne]; omega
    rw [e1]
    clear e1 he his
    go_enter Tryz.func12, Tryz.ntmps12
    go_wp2
    go_ret
    exact ⟨rfl, _, _, HL.out, HD.out, LTo.refl S HAP.out⟩
  have hk7 : w.cell? ⟨g, 7, none⟩ = some (.int .i64 0) := by rw [k7, he]; rfl
  clear k7
  by_cases htr : transB ps N = true
  rotate_left
  · have htr : transB ps N = false := by simpa using htr
    have e1 : l.write d ps = (l, d, 2) := by unfold Lg.write; rw [if_neg (by simp [he]), hN, if_pos htr]
    rw [e1]
    rw [htr] at his
    clear e1 he htr
    go_enter Tryz.func12, Tryz.ntmps12
    go_wp2_with (first
      | (go_at_call 56; refine his.mono ?_; rintro e w2 ⟨rfl, hb2⟩; have HB2 := Lib.hid hb2; clear hb2 his; go_frame)
      | fail)
    go_ret
    exact ⟨rfl, _, _, HL.out.below HB2.out, HD.out.below HB2.out, (LTo.refl S HAP.out).behind HB2.out⟩
  rw [htr] at his
  have hrl := recB_le htr
  have hcN : cutN (recB ps) ≤ 40 := by unfold cutN; omega
  have hcut : cutB l.epoch l.next (recB ps) = .ok (cutL l.epoch l.next (recB ps)) := by
    unfold cutB
    rw [if_neg (by omega), if_neg (by omega)]
  obtain ⟨pcs, hpcs⟩ : ∃ x, cutL l.epoch l.next (recB ps) = x := ⟨_, rfl⟩
  have hpl : pcs.length ≤ 40 := by rw [← hpcs, cutL_len]; exact hcN
  have hpok : ∀ q ∈ pcs, q.ok ∧ ∀ x ∈ q.da, x < 256 := fun q hq' => by
    rw [← hpcs] at hq'
    exact ⟨cutL_ok hep (by omega) (by omega) q hq', cutL_lt (recB_lt ps) _ _ q hq'⟩
  have hwr : l.write d ps = if l.free < pcs.length then (l, d, 8) else
      if (putPcs l.n pcs d).2 ≠ 0 then ({ l with err := (putPcs l.n pcs d).2 }, (putPcs l.n pcs d).1, (putPcs l.n pcs d).2)
      else ({ l with next := l.next + pcs.length, H := takeH l.H ps }, (putPcs l.n pcs d).1, 0) := by
    unfold Lg.write
    rw [if_neg (by simp [he]), hN, if_neg (by rw [htr]; decide), hcut]
    simp only [hpcs]
  have HWR := Lib.hid hwr
  have HPOK := Lib.hid hpok
  have HTR := Lib.hid htr
  have HPCS := Lib.hid hpcs
  have HE := Lib.hid he
  have HNN := Lib.hid hN
  clear hwr hpok htr hpcs he hN hcut hcN
  go_enter Tryz.func12, Tryz.ntmps12
  go_upto_region 5 with (first
    | (go_at_call 56; refine his.mono ?_; rintro e w2 ⟨rfl, hb2⟩; have HB2 := Lib.hid hb2; clear hb2 his; go_frame)
    | fail)
  have hfit : ∀ q ∈ ps, fitP q := fun q hq' => by
    obtain ⟨-, -, h3, -⟩ := (transB_iff ps N).1 HTR.out
    obtain ⟨e1, e2, e3⟩ := h3 q hq'
    exact ⟨e1, by omega, e3, HB8.out q hq'⟩
  have hps24 : ps.length ≤ 24 := ((transB_iff ps N).1 HTR.out).2.1
  have hgw2 : g < w2.heap.size := Nat.lt_of_lt_of_le hgw HB2.out.size
  have hfr : ∀ W, Below w2.heap.size w2 W → W.cell? ⟨g, 2, none⟩ = some (.int .u64 (l.epoch : Nat)) ∧ W.cell? ⟨g, 5, none⟩ = some (.int .u64 (l.next : Nat)) := fun W hW => ⟨(hW.cell (p := ⟨g, 2, none⟩) hgw2).trans ((HB2.out.cell (p := ⟨g, 2, none⟩) hgw).trans k2), (hW.cell (p := ⟨g, 5, none⟩) hgw2).trans ((HB2.out.cell (p := ⟨g, 5, none⟩) hgw).trans k5)⟩
  have hd0 : Below w2.heap.size w2 w2.drew := (Below.refl _ _).drew
  have hS := hfr _ hd0
  have hrc := rrecord_any w2.drew _ ps ((HP.out.below (HB2.out.trans (hd0.mono HB2.out.size))).i) hfit hps24
  refine wp_region_x (fun w' => w'.cell? ⟨g, 2, none⟩ = some (.int .u64 (l.epoch : Nat)) ∧ w'.cell? ⟨g, 5, none⟩ = some (.int .u64 (l.next : Nat))) [(0, 1), (1, 1), (2, 1), (3, 0), (4, 1), (5, 1), (6, 1), (7, 0), (8, 1), (9, 2), (10, 2), (11, 1), (12, 1), (13, 1), (14, 1), (15, 1)] (by kernel_rfl) (by kernel_rfl) (by intro d v c a w h; cases d <;> exact h) ?_
  iterate 3 (refine x_take rfl (fun K hK => ?_); go_simp; refine hK _ ?_; clear hK K)
  refine x_read rfl hS (fun w' h => exec_load1 ⟨⟨_, Tryz.underlying49, rfl⟩⟩ rfl h.1) ?_
  iterate 3 (refine x_take rfl (fun K hK => ?_); go_simp; refine hK _ ?_; clear hK K)
  refine x_read rfl hS (fun w' h => exec_load1 ⟨⟨_, Tryz.underlying49, rfl⟩⟩ rfl h.2) ?_
  iterate 1 (refine x_take rfl (fun K hK => ?_); go_simp; refine hK _ ?_; clear hK K)
  refine x_show' rfl (fun K hK => ?_)
  go_simp
  refine hrc.mono ?_
  rintro e w3 ⟨v3, rfl, hO3, hb3⟩
  obtain ⟨a3, n3, c3, rfl⟩ := LOut.shape hO3
  have hb23 : Below w2.heap.size w2 w3 := hd0.trans hb3
  refine hK _ _ (hfr _ hb23) ?_
  clear hK K hS
  refine x_show' rfl (fun K hK => ?_)
  go_simp
  refine (ycut_main w3 l.epoch l.next _ (recB ps) (hO3.sl el8.len) hep (by omega) (by unfold cutN; omega) (by omega)).mono ?_
  rintro e w4 ⟨hb4, v4, rfl, hX4⟩
  have hb24 : Below w2.heap.size w2 w4 := hb23.trans (hb4.mono hb23.size)
  refine hK _ _ (hfr _ hb24) ?_
  clear hK K
  obtain ⟨a4, n4, c4, rfl⟩ : ∃ a n c, v4 = .slice a n c := by
    obtain ⟨xs, -, hO, -⟩ := hX4
    exact hO.shape
  iterate 5 (refine x_take rfl (fun K hK => ?_); go_simp; refine hK _ ?_; clear hK K)
  refine x_nil ?_
  rw [HPCS.out] at hX4
  have hb04 : Below w.heap.size w w4 := HB2.out.trans (hb24.mono HB2.out.size)
  have hSlt := HL.out.lt
  have hK4 : PcsK w4 S (.slice a4 n4 c4) pcs := hX4.k fun b hb => by
    have h1 := hSlt b hb
    have h2 := HB2.out.size
    have h3 := hb23.size
    omega
  have hn4 : n4 = pcs.length := by
    obtain ⟨xs, e1, ⟨ao, cap, hv, -⟩, -⟩ := hK4
    have : n4 = xs.length := by
      have := congrArg slLen hv
      simpa [slLen] using this
    rw [this, ← e1, List.length_map]
  subst hn4
  have hfree := zfree_any (HL.out.below hb04) ht htn (by omega) (by omega)
  have HK4 := Lib.hid hK4
  have HB04 := Lib.hid hb04
  have HRC := Lib.hid hrl
  have hpl63 : (pcs.length : Int) ≤ 40 := by omega
  have hfl : l.free ≤ 4096 := by unfold Lg.free; omega
  obtain ⟨fr, hfr'⟩ : ∃ fr, l.free = fr := ⟨_, rfl⟩
  rw [hfr'] at hfree hfl
  have hfli : (fr : Int) ≤ 4096 := by omega
  have HFR := Lib.hid hfr'
  clear hrc hfr hd0 hO3 hb3 hb23 hb4 hX4 hb24 hK4 hb04 hrl hfr' hfit hps24 hSlt k0 k1 k2 k5 k6 hk7
  by_cases hfull : fr < pcs.length
  · have e1 : decide ((fr : Int) < (pcs.length : Int)) = true := decide_eq_true (by omega)
    have e1' : decide (fr < pcs.length) = true := decide_eq_true hfull
    have hw8 := HWR.out
    rw [HFR.out, if_pos hfull] at hw8
    have HW8 := Lib.hid hw8
    clear hw8 hfull HWR
    go_wp2_with (first
      | (go_at_call 23; refine hfree.mono ?_; rintro e w5 ⟨rfl, hb5⟩; have HB5 := Lib.hid hb5; clear hb5 hfree; go_frame)
      | fail)
    go_ret
    rw [HW8.out]
    have hbf : Below w.heap.size w w5 := HB04.out.trans (HB5.out.mono HB04.out.size)
    exact ⟨rfl, _, _, HL.out.below hbf, HD.out.below hbf, (LTo.refl S HAP.out).behind hbf⟩
  have e1 : decide ((fr : Int) < (pcs.length : Int)) = false := decide_eq_false (by omega)
  have e1' : decide (fr < pcs.length) = false := decide_eq_false hfull
  have hw9 := HWR.out
  rw [HFR.out, if_neg hfull] at hw9
  have HW9 := Lib.hid hw9
  clear hw9 hfull HWR
  go_upto_region 8 with (first
    | (go_at_call 23; refine hfree.mono ?_; rintro e w5 ⟨rfl, hb5⟩; have HB5 := Lib.hid hb5; clear hb5 hfree; go_frame)
    | fail)
  have hbf : Below w.heap.size w w5 := HB04.out.trans (HB5.out.mono HB04.out.size)
  have hl0 : ({ l with err := (putPcs l.n (pcs.take 0) d).2 } : Lg) = l := by
    rw [List.take_zero]
    show ({ l with err := 0 } : Lg) = l
    rw [← HE.out]
  have HBF := Lib.hid hbf
  have HL5 := Lib.hid (HL.out.below hbf)
  have HD5 := Lib.hid (HD.out.below hbf)
  have HP5 := Lib.hid (HP.out.below hbf)
  have HK5 := Lib.hid (HK4.out.turn (mod0 HB5.out) (fun _ h => h.elim) (fun _ h => .inl h))
  have HL0 := Lib.hid hl0
  clear hbf hl0
  go_wp2_with fail
  go_loopw [7, 8, 9] (fun iv _ _ wi => ∃ (k : Nat) (S' FD' : Nat → Prop), k ≤ pcs.length ∧ iv = .int .i64 k ∧ RLg wi S' F g p { l with err := (putPcs l.n (pcs.take k) d).2 } N ∧ RDk wi S' FD' p (putPcs l.n (pcs.take k) d).1 ∧ LTo w wi S F FD S' FD' ∧ PcsK wi S' (.slice a4 pcs.length c4) pcs ∧ PtB wi S' (.slice a0 n0 c0) ps) (fun iv _ _ _ => pcs.length - (intOf iv).toNat)
  case atStart => exact ⟨0, S, FD, Nat.zero_le _, rfl, by rw [HL0.out]; exact HL5.out, HD5.out, (LTo.refl S HAP.out).behind HBF.out, HK5.out, HP5.out⟩
  case round =>
    obtain ⟨k, S', FD', hk, rfl, hL, hD, hT, hK, hPb⟩ := hrel
    obtain ⟨dk, hdk⟩ : ∃ x, (putPcs l.n (pcs.take k) d).1 = x := ⟨_, rfl⟩
    obtain ⟨ek, hek⟩ : ∃ x, (putPcs l.n (pcs.take k) d).2 = x := ⟨_, rfl⟩
    have hdL : dk.L.length = d.L.length := by rw [← hdk, putPcs_L]
    have hdQ : dk.Q.length ≤ d.Q.length + 40 := by
      rw [← hdk]
      have := putPcs_Q l.n (pcs.take k) d
      rw [List.length_take] at this
      omega
    rw [hek] at hL
    rw [hdk] at hD
    obtain ⟨hvv, xs2, hh2, -⟩ := hL.ex
    simp only at hh2
    have k7 := cell_of (o := 7) hh2 rfl
    have k0 := cell_of (o := 0) hh2 rfl
    have k1 := cell_of (o := 1) hh2 rfl
    have k5 := cell_of (o := 5) hh2 rfl
    have hgwr := lt_of_block hh2
    have HL' := Lib.hid hL
    have HD' := Lib.hid hD
    have HT := Lib.hid hT
    have HK := Lib.hid hK
    have HPB := Lib.hid hPb
    have HDK := Lib.hid hdk
    have HEK := Lib.hid hek
    clear hL hD hT hK hPb hh2 hdk hek
    by_cases hgo : k < pcs.length ∧ ek = 0
    · obtain ⟨hkl, rfl⟩ := hgo
      have hdkl : decide (k < pcs.length) = true := by simp [hkl]
      have hkl' : (k : Int) < (pcs.length : Int) := by omega
      simp only [Int.natCast_zero] at k7
      obtain ⟨ys, e1, hyL, e3, e4⟩ := HK.out
      have hyl : ys.length = pcs.length := by rw [← e1]; simp
      obtain ⟨y, hy⟩ : ∃ y, ys[k]? = some y := ⟨_, List.getElem?_eq_getElem (by omega)⟩
      have hpy : pcs[k]? = some y.1 := by rw [← e1, List.getElem?_map, hy]; rfl
      have hdy := e4 y (List.mem_of_getElem? hy)
      obtain ⟨⟨o1, o2, o3⟩, o4⟩ := HPOK.out _ (List.mem_of_getElem? hpy)
      obtain ⟨yb, yoff, ycap, hyv, hyb, hyl2⟩ := hyL.at_ hy
      obtain ⟨rfl, rfl⟩ : a4 = some ⟨yb, yoff, none⟩ ∧ c4 = ycap := by
        simp at hyv
        exact ⟨hyv.1, hyv.2.2⟩
      have hts := take_snoc hpy
      obtain ⟨⟨ep, ct, fi, la, da⟩, ⟨y1, y2, y3⟩⟩ := y
      simp only at o1 o2 o3 o4 hdy
      have hlies : Lies wr yb (yoff + k * 5) #[.int .u64 (ep : Nat), .int .u64 (ct : Nat), .bool fi, .bool la, .slice y1 y2 y3] := hyl2
      have hct : wr.cell? ⟨yb, yoff + k * 5 + 1, none⟩ = some (.int .u64 (ct : Nat)) := hlies 1 (by simp)
      have hse := yseal_any wr ep ct fi la da (.slice y1 y2 y3) hdy.rd o4 o1 o2 o3
      obtain ⟨m, hm⟩ : ∃ m, ct % l.n = m := ⟨_, rfl⟩
      have hmn : m < l.n := by rw [← hm]; exact Nat.mod_lt _ (by omega)
      have hni : (l.n : Int) ≤ 4096 := by omega
      have hn0 : (2 : Int) ≤ (l.n : Int) := by omega
      have hnz : ¬ l.n = 0 := by omega
      have hcti : (ct : Int) ≤ 1099511627775 := by omega
      have hm1 : (ct : Int) % (l.n : Int) = ((m : Nat) : Int) := by rw [← hm, Int.natCast_emod]
      have hm2 : (ct : Int).tmod (l.n : Int) = ((m : Nat) : Int) := by rw [Int.tmod_eq_emod_of_nonneg (by omega)]; exact hm1
      have hmi : (m : Int) < 4096 := by omega
      have hw4 : IntKind.i64.wrap ((m : Nat) : Int) = ((m : Nat) : Int) := IntWalk.i64_in _ (by omega)
      have hw4' : IntKind.u64.wrap ((m : Nat) : Int) = ((m : Nat) : Int) := IntWalk.u64_in _ (by omega)
      have hw4n : IntKind.u64.wrap ((l.n : Nat) : Int) = ((l.n : Nat) : Int) := IntWalk.u64_in _ (by omega)
      have hw5 : IntKind.i64.wrap (2 + ((m : Nat) : Int)) = 2 + ((m : Nat) : Int) := IntWalk.i64_in _ (by omega)
      have HLIES := Lib.hid hlies
      have HTS := Lib.hid hts
      have HSE := Lib.hid hse
      have HM := Lib.hid hm
      have HO4 := Lib.hid o4
      clear hlies hts hse hm o4 e1 hyL e3 e4 hyl hy hpy hdy hyv hyl2
      go_upto_region 12 with (first
        | ((with_reducible refine wpList_loadA (aggXP (ep : Nat) (ct : Nat) fi la (.slice y1 y2 y3)) HLIES.out ?_ ?_); rfl; go_frame)
        | (go_at_call 59; refine HSE.out.mono ?_; rintro e w6 ⟨v6, rfl, hO6, hb6⟩; obtain ⟨a6, n6, c6, rfl⟩ := LOut.shape hO6; have HO6 := Lib.hid hO6; have HB6 := Lib.hid hb6; clear hO6 hb6; go_frame)
        | fail)
      have hd6 : Below wr.heap.size wr w6.drew := HB6.out.drew
      have hL6 := HL'.out.below hd6
      have hD6 := HD'.out.below hd6
      have hdat : Dat w6.drew S' (a6, n6, c6) (sealB ⟨ep, ct, fi, la, da⟩) := ⟨(HO6.out.sl el8.len).below (Below.refl _ w6).drew, fun r hr => ⟨fun e => by have := HL'.out.lt r e; have := HO6.out.lo r hr; omega, HO6.out.lt hr⟩⟩
      have hsec : secB (sealB ⟨ep, ct, fi, la, da⟩) := ⟨sealB_len _, sealB_lt _ HO4.out o3⟩
      have hxw := xwrite_any hD6 (2 + m) (by omega) (a6, n6, c6) _ hdat hsec (by omega)
      rw [show ((2 + m : Nat) : Int) = 2 + (m : Int) by omega] at hxw
      have hS : w6.drew.cell? ⟨g, 0, none⟩ = some (.pointer (some ⟨p, 0, none⟩)) ∧ w6.drew.cell? ⟨g, 1, none⟩ = some (.int .i64 (l.n : Nat)) ∧ w6.drew.cell? ⟨yb, yoff + k * 5 + 1, none⟩ = some (.int .u64 (ct : Nat)) := ⟨(hd6.cell (p := ⟨g, 0, none⟩) hgwr).trans k0, (hd6.cell (p := ⟨g, 1, none⟩) hgwr).trans k1, (hd6.cell (p := ⟨yb, yoff + k * 5 + 1, none⟩) hyb).trans hct⟩
      have HL6 := Lib.hid hL6
      have HXW := Lib.hid hxw
      clear hL6 hD6 hdat hsec hxw k0 k1 k5 k7 hct
      refine wp_region_x (fun w' => w'.cell? ⟨g, 0, none⟩ = some (.pointer (some ⟨p, 0, none⟩)) ∧ w'.cell? ⟨g, 1, none⟩ = some (.int .i64 (l.n : Nat)) ∧ w'.cell? ⟨yb, yoff + k * 5 + 1, none⟩ = some (.int .u64 (ct : Nat))) [(0, 1), (1, 1), (2, 1), (3, 1), (4, 0), (5, 1), (6, 1), (7, 1), (8, 1), (9, 0), (10, 1), (11, 1), (12, 1), (13, 0), (14, 1), (15, 1), (16, 1), (17, 1), (18, 1), (19, 2), (20, 1), (21, 1), (22, 3)] (by kernel_rfl) (by kernel_rfl) (by intro d v c a w h; cases d <;> exact h) ?_
      iterate 4 (refine x_take rfl (fun K hK => ?_); go_simp; refine hK _ ?_; clear hK K)
      refine x_read rfl hS (fun w' h => exec_load1 ⟨⟨_, Tryz.underlying28, rfl⟩⟩ rfl h.1) ?_
      iterate 4 (refine x_take rfl (fun K hK => ?_); go_simp; refine hK _ ?_; clear hK K)
      refine x_read rfl hS (fun w' h => exec_load1 ⟨⟨_, Tryz.underlying49, rfl⟩⟩ rfl h.2.2) ?_
      iterate 3 (refine x_take rfl (fun K hK => ?_); go_simp; refine hK _ ?_; clear hK K)
      refine x_read rfl hS (fun w' h => exec_load1 ⟨⟨_, Tryz.underlying3, rfl⟩⟩ rfl h.2.1) ?_
      iterate 5 (refine x_take rfl (fun K hK => ?_); go_simp; refine hK _ ?_; clear hK K)
      refine x_show' rfl (fun K hK => ?_)
      go_simp
      refine HXW.out.mono ?_
      rintro e w8 ⟨rfl, S8, FD8, hD8, hR8⟩
      have hgF := HL6.out.fg
      have hybS : ¬ S' yb := by
        obtain ⟨-, -, -, e3, -⟩ := HK.out
        exact (e3 yb rfl).1
      have hgFD : ¬ FD' g := HT.out.ap g hgF
      have hS8 : w8.cell? ⟨g, 0, none⟩ = some (.pointer (some ⟨p, 0, none⟩)) ∧ w8.cell? ⟨g, 1, none⟩ = some (.int .i64 (l.n : Nat)) ∧ w8.cell? ⟨yb, yoff + k * 5 + 1, none⟩ = some (.int .u64 (ct : Nat)) := ⟨cell_mod hS.1 hR8.mod hgFD, cell_mod hS.2.1 hR8.mod hgFD, cell_mod hS.2.2 hR8.mod fun e => hybS (HD'.out.fs yb e)⟩
      refine hK _ _ hS8 ?_
      clear hK K
      have hlt8 := hD8.lt
      have hL8 := HL6.out.to hR8 HD'.out.fs HT.out.ap hlt8
      obtain ⟨hv8, xs8, hh8, -⟩ := hL8.ex
      simp only at hh8
      have d7 := cell_of (o := 7) hh8 rfl
      have g7 := free_of (o := 7) hh8
      iterate 2 (refine x_take rfl (fun K hK => ?_); go_simp; refine hK _ ?_; clear hK K)
      refine x_skip rfl (exec_store1 (v := .int .i64 ((dk.dead : Nat) : Int)) ⟨⟨_, Tryz.underlying3, rfl⟩⟩ (by kernel_rfl) rfl rfl rfl d7 g7) ?_
      refine x_nil ?_
      have hm9 : Mod (fun b => b = g) w8 (w8.setCell ⟨g, 7, none⟩ (.int .i64 ((dk.dead : Nat) : Int))) := (Mod.refl _ _).setCell _ _ fun _ => rfl
      have hL9 : RLg (w8.setCell ⟨g, 7, none⟩ (.int .i64 ((dk.dead : Nat) : Int))) S8 F g p { l with err := dk.dead } N := hL8.nums rfl hm9 fun hv hh => (heap_setCell_at (o := 7) (v := .int .i64 ((dk.dead : Nat) : Int)) hh).trans (by simp)
      have hgS8 : S8 g := hL8.fs g hgF
      have hT8 := LTo.of_r hR8 HT.out.ap fun b hb => HL6.out.lt b (HL6.out.fs b hb)
      have hD9 : RDk (w8.setCell ⟨g, 7, none⟩ (.int .i64 ((dk.dead : Nat) : Int))) S8 FD8 p (dk.write (2 + m) (sealB ⟨ep, ct, fi, la, da⟩)) := hD8.turn hm9 (fun b hb => hb ▸ hgS8) (fun b hb e => hT8.ap g hgF (e ▸ hb)) (fun _ h => .inl h) hD8.fs fun b hb => Nat.lt_of_lt_of_le (hD8.lt b hb) hm9.size
      have hd6 : Below wr.heap.size wr w6.drew := HB6.out.drew
      have hT9 : LTo w (w8.setCell ⟨g, 7, none⟩ (.int .i64 ((dk.dead : Nat) : Int))) S F FD S8 FD8 := ((HT.out.behind hd6).trans hT8).trans (LTo.of_mod S8 hT8.ap (hm9.mono fun x _ hx => .inl (hx ▸ hgF)))
      have hk6 := HK.out.turn (mod0 hd6) (fun _ h => h.elim) (fun _ (h : S' _) => Or.inl h)
      have hk8 := hk6.turn hR8.mod HD'.out.fs hR8.new
      have hk9 := hk8.turn hm9 (fun b hb => hb ▸ hgS8) (fun _ (h : S8 _) => Or.inl h)
      have hp6 := HPB.out.below hd6
      have hp8 := hp6.turn hR8.mod HD'.out.fs hR8.new
      have hp9 := hp8.turn hm9 (fun b hb => hb ▸ hgS8) (fun _ (h : S8 _) => Or.inl h)
      have hsnp : putPcs l.n (pcs.take (k + 1)) d = (dk.write (2 + m) (sealB ⟨ep, ct, fi, la, da⟩), dk.dead) := by
        rw [HTS.out, putPcs_snoc _ _ _ _ HEK.out, HDK.out]
        simp only [HM.out]
      have HL9 := Lib.hid hL9
      have HD9 := Lib.hid hD9
      have HT9 := Lib.hid hT9
      have HK9 := Lib.hid hk9
      have HP9 := Lib.hid hp9
      have HSN := Lib.hid hsnp
      clear hL9 hD9 hT9 hk9 hp9 hk6 hk8 hp6 hp8 hsnp hm9 hL8 hh8 d7 g7 hD8 hR8 hS hS8 hT8 hlt8 hd6
      go_wp2
      go_roundw
      case rel => exact ⟨k + 1, S8, FD8, by omega, by go_num, by rw [HSN.out]; exact HL9.out, by rw [HSN.out]; exact HD9.out, HT9.out, HK9.out, HP9.out⟩
      case measure => simp [intOf]; omega
    · by_cases hek0 : ek = 0
      · obtain rfl : k = pcs.length := by omega
        subst hek0
        have hdkl : decide (pcs.length < pcs.length) = false := by simp
        simp only [Int.natCast_zero] at k7
        have htk : pcs.take pcs.length = pcs := List.take_length ..
        have hdk := HDK.out
        have hek := HEK.out
        rw [htk] at hdk hek
        have hw9 := HW9.out
        rw [if_neg (by rw [hek]; simp), hdk] at hw9
        have hle : ({ l with err := 0 } : Lg) = l := by rw [← HE.out]
        have hLr : RLg wr S' F g p l N := by
          have := HL'.out
          rwa [hle] at this
        obtain ⟨hv1, xs1, hh1, -⟩ := hLr.ex
        have g5 := free_of (o := 5) hh1
        have hxi : (l.next : Int) ≤ 1099511627775 := by omega
        have hwl : IntKind.u64.wrap ((pcs.length : Nat) : Int) = ((pcs.length : Nat) : Int) := IntWalk.u64_in _ (by omega)
        have hwn : IntKind.u64.wrap ((l.next : Int) + ((pcs.length : Nat) : Int)) = (l.next : Int) + ((pcs.length : Nat) : Int) := IntWalk.u64_in _ (by omega)
        have hsum : ((l.next + pcs.length : Nat) : Int) = (l.next : Int) + ((pcs.length : Nat) : Int) := by omega
        have hm1 : Mod (fun b => b = g) wr (wr.setCell ⟨g, 5, none⟩ (.int .u64 ((l.next : Int) + ((pcs.length : Nat) : Int)))) := (Mod.refl _ _).setCell _ _ fun _ => rfl
        have hL1 : RLg (wr.setCell ⟨g, 5, none⟩ (.int .u64 ((l.next : Int) + ((pcs.length : Nat) : Int)))) S' F g p { l with next := l.next + pcs.length } N := hLr.nums rfl hm1 fun hv hh => (heap_setCell_at (o := 5) (v := .int .u64 ((l.next : Int) + ((pcs.length : Nat) : Int))) hh).trans (by simp [hsum])
        have hgF := hLr.fg
        have hgS := hLr.fs g hgF
        have hD1 := HD'.out.turn hm1 (fun b hb => hb ▸ hgS) (fun b hb e => HT.out.ap g hgF (e ▸ hb)) (fun _ (h : S' _) => .inl h) HD'.out.fs fun b hb => Nat.lt_of_lt_of_le (HD'.out.lt b hb) hm1.size
        have hp1 := HPB.out.turn hm1 (fun b hb => hb ▸ hgS) (fun _ (h : S' _) => Or.inl h)
        have hpa : PtsA (wr.setCell ⟨g, 5, none⟩ (.int .u64 ((l.next : Int) + ((pcs.length : Nat) : Int)))) F (.slice a0 n0 c0) ps := by
          obtain ⟨zs, e1, e2, e3, e4⟩ := hp1.a
          exact ⟨zs, e1, e2, fun r hr e => e3 r hr (hLr.fs r e), fun x hx => ⟨(e4 x hx).1, fun r hr e => (e4 x hx).2 r hr (hLr.fs r e)⟩⟩
        have htk1 := ztake_any hL1 _ ps hpa HTR.out hN4
        have hT1 : LTo w (wr.setCell ⟨g, 5, none⟩ (.int .u64 ((l.next : Int) + ((pcs.length : Nat) : Int)))) S F FD S' FD' := HT.out.trans (LTo.of_mod S' HT.out.ap (hm1.mono fun x _ hx => .inl (hx ▸ hgF)))
        have HTK := Lib.hid htk1
        have HD1 := Lib.hid hD1
        have HT1 := Lib.hid hT1
        have HW := Lib.hid hw9
        clear htk hdk hek hw9 hle hLr hh1 hm1 hL1 hD1 hp1 hpa htk1 hT1 hsum hgo HW9
        go_wp2_with (first
          | (go_at_call 43; refine HTK.out.mono ?_; rintro e w8 ⟨rfl, hL8, hm8⟩; have HL8 := Lib.hid hL8; have HM8 := Lib.hid hm8; clear hL8 hm8; go_frame)
          | fail)
        go_ret
        rw [HW.out]
        refine ⟨rfl, S', HL8.out, FD', HD1.out.turn HM8.out HL8.out.fs (fun b hb e => HT1.out.ap b e hb) (fun _ h => .inl h) HD1.out.fs fun b hb => Nat.lt_of_lt_of_le (HD1.out.lt b hb) HM8.out.size, HT1.out.trans (LTo.of_mod S' HT1.out.ap (HM8.out.mono fun _ _ h => .inl h))⟩
      · have hne : (((ek : Nat) : Int) == 0) = false := by rw [beq_eq_false_iff_ne]; omega
        have hne' : (((ek : Nat) : Int) != 0) = true := by rw [bne_iff_ne]; omega
        have hall : putPcs l.n pcs d = (dk, ek) := by
          have h1 := putPcs_stop l.n (pcs.drop k) (pcs.take k) d (by rw [HEK.out]; exact hek0)
          rw [List.take_append_drop] at h1
          rw [h1, ← HDK.out, ← HEK.out]
        have hw9 := HW9.out
        rw [hall, if_pos hek0] at hw9
        have HW := Lib.hid hw9
        clear hw9 hall hek0 hgo HW9
        by_cases hkl : k < pcs.length
        · have hdkl : decide (k < pcs.length) = true := by simp [hkl]
          go_wp2
          go_ret
          rw [HW.out]
          exact ⟨rfl, S', HL'.out, FD', HD'.out, HT.out⟩
        · have hdkl : decide (k < pcs.length) = false := by simp [hkl]
          go_wp2
          go_ret
          rw [HW.out]
          exact ⟨rfl, S', HL'.out, FD', HD'.out, HT.out⟩
end Go.Proofs.YtmakpbjknklpiaaGreat

/- The document's Checkpoint: plain. -/
namespace Go.Proofs.YtmakpbjknklpiaaGreat
open Go.RowKit Go.Tn Go.Tn.Bt Go.Tn.Lp Go.Tn.Dk
/-- Homes are written, one behind the other, as long as the power is on. -/
def wrGo (l : Lg) : List Nat → Dsk → Dsk × Nat
  | [], d => (d, 0)
  | i :: r, d => if d.dead ≠ 0 then (d.write (2 + l.n + i) ((l.H i).getD []), d.dead) else wrGo l r (d.write (2 + l.n + i) ((l.H i).getD []))
theorem bring_wr (l : Lg) : ∀ (ks : List Nat) (d : Dsk), bringGo l ks d = if (wrGo l ks d).2 ≠ 0 then wrGo l ks d else ((wrGo l ks d).1.flush, (wrGo l ks d).1.dead)
  | [], d => by simp [bringGo, wrGo]
  | i :: r, d => by
    by_cases h : d.dead ≠ 0
    · simp only [bringGo, wrGo, if_pos h]
    · simp only [bringGo, wrGo, if_neg h]
      exact bring_wr l r _
theorem wrGo_snoc (l : Lg) (i : Nat) : ∀ (r : List Nat) (d : Dsk), (wrGo l r d).2 = 0 → wrGo l (r ++ [i]) d = ((wrGo l r d).1.write (2 + l.n + i) ((l.H i).getD []), (wrGo l r d).1.dead)
  | [], d, _ => by
    simp only [List.nil_append, wrGo]
    split
    · rfl
    · rename_i h
      simp only [ne_eq, Decidable.not_not] at h
      rw [h]
  | x :: r, d, h => by
    by_cases h0 : d.dead ≠ 0
    · simp only [wrGo, if_pos h0] at h
      exact absurd h h0
    · simp only [List.cons_append, wrGo, if_neg h0] at h ⊢
      exact wrGo_snoc l i r _ h
theorem wrGo_stop (l : Lg) (t : List Nat) : ∀ (r : List Nat) (d : Dsk), (wrGo l r d).2 ≠ 0 → wrGo l (r ++ t) d = wrGo l r d
  | [], d, h => absurd rfl h
  | x :: r, d, h => by
    by_cases h0 : d.dead ≠ 0
    · simp only [List.cons_append, wrGo, if_pos h0]
    · simp only [wrGo, if_neg h0] at h
      simp only [List.cons_append, wrGo, if_neg h0]
      exact wrGo_stop l t r _ h
/-- The keys among the first k homes. -/
def keysK (l : Lg) (k : Nat) : List Nat := (List.range k).filter fun k => (l.H k).isSome
theorem keysK_succ (l : Lg) (k : Nat) : keysK l (k + 1) = if (l.H k).isSome = true then keysK l k ++ [k] else keysK l k := by
  unfold keysK
  rw [List.range_succ, List.filter_append]
  cases h : (l.H k).isSome <;> simp [h]
theorem keysK_stop (l : Lg) (d : Dsk) (k N : Nat) (hk : k ≤ N) (h : (wrGo l (keysK l k) d).2 ≠ 0) : wrGo l (keysK l N) d = wrGo l (keysK l k) d := by
  have e : keysK l N = keysK l k ++ ((List.range N).drop k).filter fun k => (l.H k).isSome := by
    unfold keysK
    rw [← List.filter_append]
    congr 1
    have h1 := (List.take_append_drop k (List.range N)).symm
    rw [List.take_range, Nat.min_eq_left hk] at h1
    exact h1
  rw [e]
  exact wrGo_stop l _ _ _ h
theorem wrGo_L (l : Lg) : ∀ (ks : List Nat) (d : Dsk), (wrGo l ks d).1.L = d.L
  | [], _ => rfl
  | i :: r, d => by
    unfold wrGo
    split
    · exact write_L _ _ _
    · rw [wrGo_L l r, write_L]
theorem wrGo_Q (l : Lg) : ∀ (ks : List Nat) (d : Dsk), (wrGo l ks d).1.Q.length ≤ d.Q.length + ks.length
  | [], _ => Nat.le_refl _
  | i :: r, d => by
    have h := write_Q d (2 + l.n + i) ((l.H i).getD [])
    unfold wrGo
    split
    · simp only [List.length_cons]
      omega
    · have := wrGo_Q l r (d.write (2 + l.n + i) ((l.H i).getD []))
      simp only [List.length_cons]
      omega
theorem keysK_len (l : Lg) (k : Nat) : (keysK l k).length ≤ k := by
  unfold keysK
  exact Nat.le_trans (List.length_filter_le _ _) (by rw [List.length_range]; exact Nat.le_refl _)
end Go.Proofs.YtmakpbjknklpiaaGreat
