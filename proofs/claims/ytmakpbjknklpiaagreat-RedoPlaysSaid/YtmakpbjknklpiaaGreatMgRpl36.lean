/- The document's Open of a log, walked. -/
import Derived.Test.YtmakpbjknklpiaaGreatMgRpl35
import Derived.Test.YtmakpbjknklpiaaGreatMgRpl25
import Derived.Test.YtmakpbjknklpiaaGreatMgRpl17
/- The document's Checkpoint, walked. -/
namespace Go.Proofs.YtmakpbjknklpiaaGreat
open Go.RowKit Go.Tn Go.Tn.Bt Go.Tn.Lp Go.Tn.Dk
/-- The same where the log's own blocks turn too. -/
structure LT2 (w w' : World) (S F FD S' F' FD' : Nat → Prop) : Prop where
  mod : Mod (fun b => F b ∨ FD b) w w'
  sub : ∀ b, S b → S' b
  new : ∀ b, S' b → S b ∨ w.heap.size ≤ b
  own : ∀ b, FD' b → FD b ∨ w.heap.size ≤ b
  ownF : ∀ b, F' b → F b ∨ w.heap.size ≤ b
  ap : ∀ b, F' b → ¬ FD' b
theorem LTo.two {w w' : World} {S F FD S' FD' : Nat → Prop} (h : LTo w w' S F FD S' FD') : LT2 w w' S F FD S' F FD' := ⟨h.mod, h.sub, h.new, h.own, fun _ h => .inl h, h.ap⟩
theorem sync_keeps {l : Lg} {d : Dsk} (h : (l.sync d).1.err = 0) : (l.sync d).1 = l := by
  unfold Lg.sync at h ⊢
  by_cases he : l.err ≠ 0
  · rw [if_pos he]
  · rw [if_neg he] at h ⊢
    have he : l.err = 0 := by omega
    simp only at h ⊢
    rw [h, ← he]
theorem zeroBs : (Tryz.prog.info? 53).map (fun i => i.zero.map (·.cells)) = some (some (enB (([], (none, 0, 0)) : List Nat × Sv)).toArray) := by kernel_rfl
set_option maxRecDepth 20000 in
set_option maxHeartbeats 8000000 in
theorem zcheck_any {w : World} {S F FD : Nat → Prop} {g p N : Nat} {l : Lg} {d : Dsk} (h : RLg w S F g p l N) (hd : RDk w S FD p d) (hap : ∀ b, F b → ¬ FD b) (hN : l.homes d = N) (hn2 : 2 ≤ l.n) (hnd : l.n + 3 ≤ d.L.length) (hep : l.epoch ≤ 16777215) (hgen : l.gen ≤ 1099511627775) (hnx : l.next < 2 ^ 39) (herr : l.err < 256) (hq : d.Q.length ≤ 900000000) (hH : ∀ k b, l.H k = some b → secB b) :
    Calls Tryz.prog 16 #[.pointer (some ⟨g, 0, none⟩)] w fun e w' => e = .returned (.int .i64 ((l.check d).2.2 : Nat)) ∧ ∃ S' F' FD', RLg w' S' F' g p (l.check d).1 N ∧ RDk w' S' FD' p (l.check d).2.1 ∧ LT2 w w' S F FD S' F' FD' := by
  have hhi := hd.ok.hi
  have hN4 : N ≤ 4096 := by rw [← hN]; unfold Lg.homes; omega
  have hsy := zsync_any h hd hap herr
  have hq1 : (l.sync d).2.Q.length ≤ d.Q.length := lsync_Q.1
  have hL1 : (l.sync d).2.L.length = d.L.length := lsync_Q.2
  have HAP := Lib.hid hap
  have HLT := Lib.hid h.lt
  have hNd : N = d.L.length - 2 - l.n := by rw [← hN]; rfl
  clear h hd hap
  by_cases he : (l.sync d).1.err = 0
  rotate_left
  · have e1 : l.check d = ((l.sync d).1, (l.sync d).2, (l.sync d).1.err) := by unfold Lg.check; rw [if_pos he]
    have hne : ((((l.sync d).1.err : Nat) : Int) != 0) = true := by rw [bne_iff_ne]; omega
    rw [e1]
    generalize (l.sync d).1 = l1 at *
    generalize (l.sync d).2 = d1 at *
    clear e1 he
    go_enter Tryz.func16, Tryz.ntmps16
    go_wp2_with (first
      | (go_at_call 14; refine hsy.mono ?_; rintro e w2 ⟨rfl, hL, hD, hm⟩; obtain ⟨hv2, xs2, hh2, -⟩ := hL.ex; have d7 := cell_of (o := 7) hh2 rfl; have HL := Lib.hid hL; have HD := Lib.hid hD; have HM := Lib.hid hm; clear hL hD hm hh2 hsy; go_frame)
      | fail)
    go_ret
    exact ⟨rfl, S, F, FD, HL.out, HD.out, (LTo.of_mod S HAP.out HM.out).two⟩
  have hls := sync_keeps he
  have hchk : l.check d = if 1099511627775 ≤ l.gen then ({ l with err := 8 }, (l.sync d).2, 8) else
      if (l.bring (l.sync d).2).2 ≠ 0 then ({ l with err := (l.bring (l.sync d).2).2 }, (l.bring (l.sync d).2).1, (l.bring (l.sync d).2).2) else
      if ((l.bring (l.sync d).2).1.save 0 l.epoch ⟨l.gen + 1, l.next, l.epoch⟩).2 ≠ 0 then
        ({ l with err := ((l.bring (l.sync d).2).1.save 0 l.epoch ⟨l.gen + 1, l.next, l.epoch⟩).2 }, ((l.bring (l.sync d).2).1.save 0 l.epoch ⟨l.gen + 1, l.next, l.epoch⟩).1, ((l.bring (l.sync d).2).1.save 0 l.epoch ⟨l.gen + 1, l.next, l.epoch⟩).2)
      else ({ l with gen := l.gen + 1, tail := l.next, H := fun _ => none }, ((l.bring (l.sync d).2).1.save 0 l.epoch ⟨l.gen + 1, l.next, l.epoch⟩).1, 0) := by
    unfold Lg.check
    rw [if_neg (by simp [he]), hls]
  have he0 : l.err = 0 := by rw [← hls]; exact he
  have hbr : l.bring (l.sync d).2 = bringGo l (keysK l N) (l.sync d).2 := by
    unfold Lg.bring Lg.keys keysK Lg.homes
    rw [hL1, hNd]
  rw [hbr, bring_wr] at hchk
  rw [hls] at hsy
  obtain ⟨d1, hd1⟩ : ∃ x, (l.sync d).2 = x := ⟨_, rfl⟩
  rw [hd1] at hsy hchk hq1 hL1
  rw [he0] at hsy
  simp only [Int.natCast_zero] at hsy
  have HCHK := Lib.hid hchk
  have HHS := Lib.hid hH
  have HE0 := Lib.hid he0
  have hgi : (l.gen : Int) ≤ 1099511627775 := by omega
  have HND := Lib.hid hNd
  have HL1 := Lib.hid hL1
  clear hchk hbr hd1 he hls hH hN he0 herr hNd hL1
  go_enter Tryz.func16, Tryz.ntmps16
  go_upto_region 3 with (first
    | (go_at_call 14; refine hsy.mono ?_; rintro e w2 ⟨rfl, hL, hD, hm⟩; have HL := Lib.hid hL; have HD := Lib.hid hD; have HM := Lib.hid hm; clear hL hD hm hsy; go_frame)
    | fail)
  obtain ⟨hv2, xs2, hh2, h2o, h2l, -⟩ := HL.out.ex
  have k3 := cell_of (o := 3) hh2 rfl
  have k7 := cell_of (o := 7) hh2 rfl
  have g7 := free_of (o := 7) hh2
  have hgF := HL.out.fg
  have hgS := HL.out.fs g hgF
  have hT2 := LTo.of_mod S HAP.out HM.out
  by_cases hgm : 1099511627775 ≤ l.gen
  · have e1 : decide ((1099511627775 : Int) ≤ (l.gen : Int)) = true := decide_eq_true (by omega)
    have e1' : decide (1099511627775 ≤ l.gen) = true := decide_eq_true hgm
    have hw := HCHK.out
    rw [if_pos hgm] at hw
    have HW := Lib.hid hw
    have hm3 : Mod (fun b => b = g) w2 (w2.setCell ⟨g, 7, none⟩ (.int .i64 8)) := (Mod.refl _ _).setCell _ _ fun _ => rfl
    have hL3 : RLg (w2.setCell ⟨g, 7, none⟩ (.int .i64 8)) S F g p { l with err := 8 } N := HL.out.nums rfl hm3 fun hv hh => (heap_setCell_at (o := 7) (v := .int .i64 8) hh).trans (by simp)
    have hD3 := HD.out.turn hm3 (fun b hb => hb ▸ hgS) (fun b hb e => HAP.out g hgF (e ▸ hb)) (fun _ (h : S _) => .inl h) HD.out.fs fun b hb => Nat.lt_of_lt_of_le (HD.out.lt b hb) hm3.size
    have hT3 := hT2.trans (LTo.of_mod S HAP.out (hm3.mono fun x _ hx => .inl (hx ▸ hgF)))
    have HL3 := Lib.hid hL3
    have HD3 := Lib.hid hD3
    have HT3 := Lib.hid hT3
    clear hw hgm hm3 hL3 hD3 hT3 hT2 hh2 HCHK h2o
    go_wp2
    go_ret
    rw [HW.out]
    exact ⟨rfl, S, F, FD, HL3.out, HD3.out, HT3.out.two⟩
  have e1 : decide ((1099511627775 : Int) ≤ (l.gen : Int)) = false := decide_eq_false (by omega)
  have e1' : decide (1099511627775 ≤ l.gen) = false := decide_eq_false hgm
  have hw9 := HCHK.out
  rw [if_neg hgm] at hw9
  have HW9 := Lib.hid hw9
  have HT2 := Lib.hid hT2
  clear hw9 HCHK hT2 hh2 h2o g7 k7
  go_wp2_with fail
  go_loopw [3] (fun iv wi => ∃ (k : Nat) (S' FD' : Nat → Prop), k ≤ N ∧ iv = .int .i64 k ∧ RLg wi S' F g p { l with err := (wrGo l (keysK l k) d1).2 } N ∧ RDk wi S' FD' p (wrGo l (keysK l k) d1).1 ∧ LTo w wi S F FD S' FD') (fun iv _ => N - (intOf iv).toNat)
  case atStart =>
    refine ⟨0, S, FD, Nat.zero_le _, rfl, ?_, HD.out, HT2.out⟩
    have e : ({ l with err := (wrGo l (keysK l 0) d1).2 } : Lg) = l := by
      show ({ l with err := 0 } : Lg) = l
      rw [← HE0.out]
    rw [e]
    exact HL.out
  case round =>
    obtain ⟨k, S', FD', hk, rfl, hL, hD, hT⟩ := hrel
    obtain ⟨dk, hdk⟩ : ∃ x, (wrGo l (keysK l k) d1).1 = x := ⟨_, rfl⟩
    obtain ⟨ek, hek⟩ : ∃ x, (wrGo l (keysK l k) d1).2 = x := ⟨_, rfl⟩
    have HDL : Hid (dk.L.length = d.L.length) := Lib.hid (by rw [← hdk, wrGo_L, HL1.out])
    have hdQ : dk.Q.length ≤ d.Q.length + 4096 := by
      rw [← hdk]
      have h1 := wrGo_Q l (keysK l k) d1
      have h2 := keysK_len l k
      omega
    rw [hek] at hL
    rw [hdk] at hD
    obtain ⟨hvv, xs, hh, ho, hl, hx, hown⟩ := hL.ex
    simp only at hh hx
    obtain ⟨ha, hc, rfl, -, -, -⟩ := ho.sl elB.len
    rw [hl] at hh ho hown
    have k7 := cell_of (o := 7) hh rfl
    have k0 := cell_of (o := 0) hh rfl
    have k1 := cell_of (o := 1) hh rfl
    have k6 := cell_of (o := 6) hh rfl
    have hgwr := lt_of_block hh
    have hN63 : (N : Int) ≤ 4096 := by omega
    have HL' := Lib.hid hL
    have HD' := Lib.hid hD
    have HT := Lib.hid hT
    have HDK := Lib.hid hdk
    have HEK := Lib.hid hek
    have HO := Lib.hid ho
    have HX := Lib.hid hx
    have HXL := Lib.hid hl
    have HOWN := Lib.hid hown
    clear hL hD hT hdk hek ho hx hl hown hh
    by_cases hgo : k < N ∧ ek = 0
    · obtain ⟨hkl, rfl⟩ := hgo
      have hdkl : decide (k < N) = true := by simp [hkl]
      have hkl' : (k : Int) < (N : Int) := by omega
      simp only [Int.natCast_zero] at k7
      obtain ⟨y, hy⟩ : ∃ y, xs[k]? = some y := ⟨_, List.getElem?_eq_getElem (by rw [HXL.out]; exact hkl)⟩
      obtain ⟨hy1, hy2⟩ := HX.out k y hy
      obtain ⟨yb, yoff, ycap, hyv, hyb, hyl⟩ := (HO.out.sl elB.len).at_ hy
      rw [HXL.out] at hyv
      obtain ⟨rfl, rfl⟩ : ha = some ⟨yb, yoff, none⟩ ∧ hc = ycap := by
        simp at hyv
        exact hyv
      obtain ⟨yx, ⟨y1, y2, y3⟩⟩ := y
      have hcx : wr.cell? ⟨yb, yoff + k, none⟩ = some (.slice y1 y2 y3) := by
        have := hyl 0 (by simp [enB])
        simpa [enB, sv] using this
      obtain ⟨yo, ycp, hyy, q1, q2, -⟩ := id hy2.rd
      obtain ⟨rfl, rfl, rfl⟩ : y1 = yo ∧ y2 = yx.length ∧ y3 = ycp := by simpa [sv] using hyy
      simp only at hy1 q1
      have hyx63 : (yx.length : Int) ≤ 9223372036854775807 := by unfold maxLen at q2; omega
      have hyo : F yb ∧ yb ≠ g := ⟨(HOWN.out yb rfl).2, (HOWN.out yb rfl).1⟩
      have hks := keysK_succ l k
      cases hHk : l.H k with
      | none =>
        have hy0 : yx.length = 0 := by rw [hy1, hHk]; rfl
        have e2 : decide ((0 : Int) < (yx.length : Int)) = false := decide_eq_false (by omega)
        have e2' : decide (0 < yx.length) = false := decide_eq_false (by omega)
        rw [hHk] at hks
        have hks2 : keysK l (k + 1) = keysK l k := by rw [hks]; rfl
        have HKS := Lib.hid hks2
        clear hks hks2 hHk hy0 hy1 hy2 hyy hy hyl hyv q1 q2
        go_wp2
        go_roundw
        case rel => exact ⟨k + 1, S', FD', by omega, by go_num, by rw [HKS.out, HEK.out]; exact HL'.out, by rw [HKS.out, HDK.out]; exact HD'.out, HT.out⟩
        case measure => simp [intOf]; omega
      | some b =>
        have hsb := HHS.out k b hHk
        have hyb' : yx = b := by rw [hy1, hHk]; rfl
        subst hyb'
        have e2 : decide ((0 : Int) < (yx.length : Int)) = true := decide_eq_true (by have := hsb.1; omega)
        have e2' : decide (0 < yx.length) = true := decide_eq_true (by have := hsb.1; omega)
        rw [hHk] at hks
        have hks2 : keysK l (k + 1) = keysK l k ++ [k] := by rw [hks]; rfl
        have hsn : wrGo l (keysK l (k + 1)) d1 = (dk.write (2 + l.n + k) yx, dk.dead) := by
          rw [hks2, wrGo_snoc l k _ _ HEK.out, HDK.out, hHk]
          rfl
        have hni : (l.n : Int) ≤ 4096 := by omega
        have hd6 : Below wr.heap.size wr wr.drew := (Below.refl _ _).drew
        have hxw := xwrite_any (HD'.out.below hd6) (2 + l.n + k) (by have h1 := HND.out; have h2 := HDL.out; omega) (y1, yx.length, y3) yx (hy2.keep hd6) hsb (by omega)
        rw [show ((2 + l.n + k : Nat) : Int) = 2 + (l.n : Int) + (k : Int) by omega] at hxw
        have hw1 : IntKind.i64.wrap (2 + (l.n : Int)) = 2 + (l.n : Int) := IntWalk.i64_in _ (by omega)
        have hw2 : IntKind.i64.wrap (2 + (l.n : Int) + (k : Int)) = 2 + (l.n : Int) + (k : Int) := IntWalk.i64_in _ (by omega)
        have hS : wr.drew.cell? ⟨g, 0, none⟩ = some (.pointer (some ⟨p, 0, none⟩)) ∧ wr.drew.cell? ⟨g, 1, none⟩ = some (.int .i64 (l.n : Nat)) ∧ wr.drew.cell? ⟨g, 6, none⟩ = some (.slice (some ⟨yb, yoff, none⟩) N hc) ∧ wr.drew.cell? ⟨yb, yoff + k, none⟩ = some (.slice y1 yx.length y3) := ⟨k0, k1, k6, hcx⟩
        have HSN := Lib.hid hsn
        have HXW := Lib.hid hxw
        have HYO := Lib.hid hyo
        clear hks hks2 hsn hHk hy1 hy2 hyy hy hyl hyv q1 q2 hxw hyo
        go_upto_region 10 with fail
        clear k7 k0 k1 k6 hcx
        refine wp_region_x (fun w' => w'.cell? ⟨g, 0, none⟩ = some (.pointer (some ⟨p, 0, none⟩)) ∧ w'.cell? ⟨g, 1, none⟩ = some (.int .i64 (l.n : Nat)) ∧ w'.cell? ⟨g, 6, none⟩ = some (.slice (some ⟨yb, yoff, none⟩) N hc) ∧ w'.cell? ⟨yb, yoff + k, none⟩ = some (.slice y1 yx.length y3)) [(0, 1), (1, 1), (2, 1), (3, 1), (4, 0), (5, 1), (6, 1), (7, 1), (8, 0), (9, 1), (10, 1), (11, 1), (12, 1), (13, 1), (14, 1), (15, 0), (16, 1), (17, 1), (18, 0), (19, 2), (20, 1), (21, 1), (22, 3)] (by kernel_rfl) (by kernel_rfl) (by intro d v c a w h; cases d <;> exact h) ?_
        iterate 4 (refine x_take rfl (fun K hK => ?_); go_simp; refine hK _ ?_; clear hK K)
        refine x_read rfl hS (fun w' h => exec_load1 ⟨⟨_, Tryz.underlying28, rfl⟩⟩ rfl h.1) ?_
        iterate 3 (refine x_take rfl (fun K hK => ?_); go_simp; refine hK _ ?_; clear hK K)
        refine x_read rfl hS (fun w' h => exec_load1 ⟨⟨_, Tryz.underlying3, rfl⟩⟩ rfl h.2.1) ?_
        iterate 6 (refine x_take rfl (fun K hK => ?_); go_simp; refine hK _ ?_; clear hK K)
        refine x_read rfl hS (fun w' h => exec_load1 ⟨⟨_, Tryz.underlying50, rfl⟩⟩ rfl h.2.2.1) ?_
        iterate 2 (refine x_take rfl (fun K hK => ?_); go_simp; refine hK _ ?_; clear hK K)
        refine x_read rfl hS (fun w' h => exec_load1 ⟨⟨_, Tryz.underlying53, rfl⟩⟩ rfl h.2.2.2) ?_
        refine x_show' rfl (fun K hK => ?_)
        go_simp
        refine HXW.out.mono ?_
        rintro e w8 ⟨rfl, S8, FD8, hD8, hR8⟩
        have hgFD : ¬ FD' g := HT.out.ap g hgF
        have hyFD : ¬ FD' yb := HT.out.ap yb HYO.out.1
        have hS8 := And.intro (cell_mod hS.1 hR8.mod hgFD) (And.intro (cell_mod hS.2.1 hR8.mod hgFD) (And.intro (cell_mod hS.2.2.1 hR8.mod hgFD) (cell_mod hS.2.2.2 hR8.mod hyFD)))
        refine hK _ _ hS8 ?_
        clear hK K
        have hlt8 := hD8.lt
        have hL8 := (HL'.out.below hd6).to hR8 HD'.out.fs HT.out.ap hlt8
        obtain ⟨hv8, xs8, hh8, -⟩ := hL8.ex
        simp only at hh8
        have d7 := cell_of (o := 7) hh8 rfl
        have g7 := free_of (o := 7) hh8
        iterate 2 (refine x_take rfl (fun K hK => ?_); go_simp; refine hK _ ?_; clear hK K)
        refine x_skip rfl (exec_store1 (v := .int .i64 ((dk.dead : Nat) : Int)) ⟨⟨_, Tryz.underlying3, rfl⟩⟩ (by kernel_rfl) rfl rfl rfl d7 g7) ?_
        refine x_nil ?_
        have hm9 : Mod (fun b => b = g) w8 (w8.setCell ⟨g, 7, none⟩ (.int .i64 ((dk.dead : Nat) : Int))) := (Mod.refl _ _).setCell _ _ fun _ => rfl
        have hL9 : RLg (w8.setCell ⟨g, 7, none⟩ (.int .i64 ((dk.dead : Nat) : Int))) S8 F g p { l with err := dk.dead } N := hL8.nums rfl hm9 fun hv hh => (heap_setCell_at (o := 7) (v := .int .i64 ((dk.dead : Nat) : Int)) hh).trans (by simp)
        have hgS8 : S8 g := hL8.fs g hgF
        have hT8 := LTo.of_r hR8 HT.out.ap fun b hb => (HL'.out.below hd6).lt b (HL'.out.fs b hb)
        have hD9 : RDk (w8.setCell ⟨g, 7, none⟩ (.int .i64 ((dk.dead : Nat) : Int))) S8 FD8 p (dk.write (2 + l.n + k) yx) := hD8.turn hm9 (fun b hb => hb ▸ hgS8) (fun b hb e => hT8.ap g hgF (e ▸ hb)) (fun _ h => .inl h) hD8.fs fun b hb => Nat.lt_of_lt_of_le (hD8.lt b hb) hm9.size
        have hT9 : LTo w (w8.setCell ⟨g, 7, none⟩ (.int .i64 ((dk.dead : Nat) : Int))) S F FD S8 FD8 := ((HT.out.behind hd6).trans hT8).trans (LTo.of_mod S8 hT8.ap (hm9.mono fun x _ hx => .inl (hx ▸ hgF)))
        have HL9 := Lib.hid hL9
        have HD9 := Lib.hid hD9
        have HT9 := Lib.hid hT9
        clear hL9 hD9 hT9 hm9 hL8 hh8 d7 g7 hD8 hR8 hS hS8 hT8 hlt8 hd6
        go_wp2
        go_roundw
        case rel => exact ⟨k + 1, S8, FD8, by omega, by go_num, by rw [HSN.out]; exact HL9.out, by rw [HSN.out]; exact HD9.out, HT9.out⟩
        case measure => simp [intOf]; omega
    · by_cases hek0 : ek = 0
      rotate_left
      · have hne : (((ek : Nat) : Int) == 0) = false := by rw [beq_eq_false_iff_ne]; omega
        have hne' : (((ek : Nat) : Int) != 0) = true := by rw [bne_iff_ne]; omega
        have hall : wrGo l (keysK l N) d1 = (dk, ek) := by
          rw [keysK_stop l d1 k N hk (by rw [HEK.out]; exact hek0), ← HDK.out, ← HEK.out]
        have hw9 := HW9.out
        simp only [hall] at hw9
        rw [if_pos hek0, if_pos hek0] at hw9
        have HW := Lib.hid hw9
        clear hw9 hall hek0 hgo HW9
        by_cases hkl : k < N
        · have hdkl : decide (k < N) = true := by simp [hkl]
          go_wp2
          go_ret
          rw [HW.out]
          exact ⟨rfl, S', F, HL'.out, FD', HD'.out, HT.out.two⟩
        · have hdkl : decide (k < N) = false := by simp [hkl]
          go_wp2
          go_ret
          rw [HW.out]
          exact ⟨rfl, S', F, HL'.out, FD', HD'.out, HT.out.two⟩
      obtain rfl : k = N := by omega
      subst hek0
      have hdkl : decide (k < k) = false := by simp
      simp only [Int.natCast_zero] at k7
      have hall : wrGo l (keysK l k) d1 = (dk, 0) := by rw [← HDK.out, ← HEK.out]
      have hw9 := HW9.out
      have hbr : (if (wrGo l (keysK l k) d1).2 ≠ 0 then wrGo l (keysK l k) d1 else ((wrGo l (keysK l k) d1).1.flush, (wrGo l (keysK l k) d1).1.dead)) = (dk.flush, dk.dead) := by
        rw [hall]
        simp
      rw [hbr] at hw9
      simp only at hw9
      have hfl := xflush_any HD'.out
      have hle : ({ l with err := 0 } : Lg) = l := by rw [← HE0.out]
      have hLr : RLg wr S' F g p l k := by
        have := HL'.out
        rwa [hle] at this
      have HLR := Lib.hid hLr
      have HW9' := Lib.hid hw9
      obtain ⟨D, hD⟩ : ∃ D, dk.dead = D := ⟨_, rfl⟩
      rw [hD] at hfl
      have HDD := Lib.hid hD
      clear hall hw9 hle hLr hgo HW9 hD hbr
      go_upto_region 13 with (first
        | (go_at_call 62; refine hfl.mono ?_; rintro e w5 ⟨rfl, hD5, hm5⟩; have hL5 := HLR.out.turn hm5 HD'.out.fs HT.out.ap (fun _ h => .inl h) HLR.out.fs (fun b hb => Nat.lt_of_lt_of_le (HLR.out.lt b hb) hm5.size); obtain ⟨hv5, xs5, hh5, -⟩ := hL5.ex; have d7 := cell_of (o := 7) hh5 rfl; have g7' := free_of (o := 7) hh5; have HL5 := Lib.hid hL5; have HD5 := Lib.hid hD5; have HM5 := Lib.hid hm5; clear hD5 hm5 hL5 hh5 hfl; go_frame)
        | fail)
      have hgF' := HL5.out.fg
      have hgS5 := HL5.out.fs g hgF'
      have hm6 : Mod (fun b => b = g) w5 (w5.setCell ⟨g, 7, none⟩ (.int .i64 ((D : Nat) : Int))) := (Mod.refl _ _).setCell _ _ fun _ => rfl
      have hL6 : RLg (w5.setCell ⟨g, 7, none⟩ (.int .i64 ((D : Nat) : Int))) S' F g p { l with err := D } k := HL5.out.nums rfl hm6 fun hv hh => (heap_setCell_at (o := 7) (v := .int .i64 ((D : Nat) : Int)) hh).trans (by simp)
      have hD6 := HD5.out.turn hm6 (fun b hb => hb ▸ hgS5) (fun b hb e => HT.out.ap g hgF' (e ▸ hb)) (fun _ (h : S' _) => .inl h) HD5.out.fs fun b hb => Nat.lt_of_lt_of_le (HD5.out.lt b hb) hm6.size
      have hT6 : LTo w (w5.setCell ⟨g, 7, none⟩ (.int .i64 ((D : Nat) : Int))) S F FD S' FD' := (HT.out.trans (LTo.of_mod S' HT.out.ap (HM5.out.mono fun _ _ h => .inr h))).trans (LTo.of_mod S' HT.out.ap (hm6.mono fun x _ hx => .inl (hx ▸ hgF')))
      have HL6 := Lib.hid hL6
      have HD6 := Lib.hid hD6
      have HT6 := Lib.hid hT6
      clear hL6 hD6 hT6 hm6 d7 g7'
      generalize w5.setCell ⟨g, 7, none⟩ (.int .i64 ((D : Nat) : Int)) = w6 at *
      obtain ⟨hv6, xs6, hh6, ho6, hl6, -⟩ := HL6.out.ex
      simp only at hh6
      obtain ⟨ha6, hc6, rfl, -, -, -⟩ := ho6.sl elB.len
      rw [hl6] at hh6
      have m0 := cell_of (o := 0) hh6 rfl
      have m2 := cell_of (o := 2) hh6 rfl
      have m3 := cell_of (o := 3) hh6 rfl
      have m5 := cell_of (o := 5) hh6 rfl
      have m7 := cell_of (o := 7) hh6 rfl
      have hw9 := HW9'.out
      rw [HDD.out] at hw9
      clear ho6 hl6
      by_cases hD0 : D = 0
      rotate_left
      · have hne : (((D : Nat) : Int) == 0) = false := by rw [beq_eq_false_iff_ne]; omega
        have hne' : (((D : Nat) : Int) != 0) = true := by rw [bne_iff_ne]; omega
        rw [if_pos hD0] at hw9
        have HW := Lib.hid hw9
        clear hw9 hD0 hh6
        go_wp2
        go_ret
        rw [HW.out]
        exact ⟨rfl, S', F, FD', HL6.out, HD6.out, HT6.out.two⟩
      subst hD0
      simp only [Int.natCast_zero] at m7
      rw [if_neg (by simp)] at hw9
      have hle6 : ({ l with err := 0 } : Lg) = l := by rw [← HE0.out]
      have hL6' : RLg w6 S' F g p l k := by
        have := HL6.out
        rwa [hle6] at this
      have HL6' := Lib.hid hL6'
      have HWX := Lib.hid hw9
      obtain ⟨dd, hdd⟩ : ∃ x, dk.flush = x := ⟨_, rfl⟩
      have hddL : dd.L.length = d.L.length := by
        rw [← hdd, ← HDL.out]
        unfold Dsk.flush
        split
        · rw [step_L]
        · exact laid_len _ _
      have hddQ : dd.Q.length ≤ d.Q.length + 4096 := by
        rw [← hdd]
        exact Nat.le_trans (flush_Q dk) hdQ
      rw [hdd] at HD6 HWX
      clear hw9 hle6 hL6' hh6 HL6 hdd
      have hd7 : Below w6.heap.size w6 w6.drew := (Below.refl _ _).drew
      have hsv := hxsave_any (HD6.out.below hd7) 0 l.epoch (l.gen + 1) l.next l.epoch (by have h1 := hddL; have h2 := hnd; omega) hep (by omega) (by omega) (by omega) (by omega)
      rw [show ((l.gen + 1 : Nat) : Int) = (l.gen : Int) + 1 by omega, show ((0 : Nat) : Int) = 0 from rfl] at hsv
      have HDDL := Lib.hid hddL
      have HSV := Lib.hid hsv
      have hw1 : IntKind.u64.wrap ((l.gen : Int) + 1) = (l.gen : Int) + 1 := IntWalk.u64_in _ (by omega)
      have hS : w6.drew.cell? ⟨g, 0, none⟩ = some (.pointer (some ⟨p, 0, none⟩)) ∧ w6.drew.cell? ⟨g, 2, none⟩ = some (.int .u64 (l.epoch : Nat)) ∧ w6.drew.cell? ⟨g, 3, none⟩ = some (.int .u64 (l.gen : Nat)) ∧ w6.drew.cell? ⟨g, 5, none⟩ = some (.int .u64 (l.next : Nat)) := ⟨m0, m2, m3, m5⟩
      clear hddL hsv hddQ
      go_upto_region 14 with fail
      clear m0 m2 m3 m5 m7
      refine wp_region_x (fun w' => w'.cell? ⟨g, 0, none⟩ = some (.pointer (some ⟨p, 0, none⟩)) ∧ w'.cell? ⟨g, 2, none⟩ = some (.int .u64 (l.epoch : Nat)) ∧ w'.cell? ⟨g, 3, none⟩ = some (.int .u64 (l.gen : Nat)) ∧ w'.cell? ⟨g, 5, none⟩ = some (.int .u64 (l.next : Nat))) [(0, 1), (1, 1), (2, 1), (3, 1), (4, 0), (5, 1), (6, 1), (7, 1), (8, 0), (9, 1), (10, 1), (11, 1), (12, 0), (13, 1), (14, 1), (15, 1), (16, 1), (17, 0), (18, 1), (19, 1), (20, 1), (21, 0), (22, 1), (23, 2), (24, 1), (25, 1), (26, 3)] (by kernel_rfl) (by kernel_rfl) (by intro d v c a w h; cases d <;> exact h) ?_
      iterate 4 (refine x_take rfl (fun K hK => ?_); go_simp; refine hK _ ?_; clear hK K)
      refine x_read rfl hS (fun w' h => exec_load1 ⟨⟨_, Tryz.underlying28, rfl⟩⟩ rfl h.1) ?_
      iterate 3 (refine x_take rfl (fun K hK => ?_); go_simp; refine hK _ ?_; clear hK K)
      refine x_read rfl hS (fun w' h => exec_load1 ⟨⟨_, Tryz.underlying49, rfl⟩⟩ rfl h.2.1) ?_
      iterate 3 (refine x_take rfl (fun K hK => ?_); go_simp; refine hK _ ?_; clear hK K)
      refine x_read rfl hS (fun w' h => exec_load1 ⟨⟨_, Tryz.underlying49, rfl⟩⟩ rfl h.2.2.1) ?_
      iterate 4 (refine x_take rfl (fun K hK => ?_); go_simp; refine hK _ ?_; clear hK K)
      refine x_read rfl hS (fun w' h => exec_load1 ⟨⟨_, Tryz.underlying49, rfl⟩⟩ rfl h.2.2.2) ?_
      iterate 3 (refine x_take rfl (fun K hK => ?_); go_simp; refine hK _ ?_; clear hK K)
      refine x_read rfl hS (fun w' h => exec_load1 ⟨⟨_, Tryz.underlying49, rfl⟩⟩ rfl h.2.1) ?_
      refine x_take rfl (fun K hK => ⟨_, fun w' => exec_buildA rfl (builtXH ((l.gen : Int) + 1) (l.next : Nat) (l.epoch : Nat)), ?_⟩)
      go_simp
      refine hK _ ?_
      clear hK K
      refine x_show' rfl (fun K hK => ?_)
      go_simp
      refine HSV.out.mono ?_
      rintro e w8 ⟨rfl, S8, FD8, hD8, hR8⟩
      have hgFD : ¬ FD' g := HT6.out.ap g hgF'
      have hS8 := And.intro (cell_mod hS.1 hR8.mod hgFD) (And.intro (cell_mod hS.2.1 hR8.mod hgFD) (And.intro (cell_mod hS.2.2.1 hR8.mod hgFD) (cell_mod hS.2.2.2 hR8.mod hgFD)))
      refine hK _ _ hS8 ?_
      clear hK K
      obtain ⟨c2, hc2⟩ : ∃ x, (dd.save 0 l.epoch ⟨l.gen + 1, l.next, l.epoch⟩).2 = x := ⟨_, rfl⟩
      obtain ⟨d2, hd2⟩ : ∃ x, (dd.save 0 l.epoch ⟨l.gen + 1, l.next, l.epoch⟩).1 = x := ⟨_, rfl⟩
      have hwx := HWX.out
      rw [hc2, hd2] at hwx
      rw [hd2] at hD8
      rw [hc2]
      have hL8 := (HL6'.out.below hd7).to hR8 HD6.out.fs HT6.out.ap hD8.lt
      obtain ⟨hv8, xs8, hh8, -⟩ := hL8.ex
      have d7 := cell_of (o := 7) hh8 rfl
      have g7 := free_of (o := 7) hh8
      iterate 2 (refine x_take rfl (fun K hK => ?_); go_simp; refine hK _ ?_; clear hK K)
      refine x_skip rfl (exec_store1 (v := .int .i64 ((c2 : Nat) : Int)) ⟨⟨_, Tryz.underlying3, rfl⟩⟩ (by kernel_rfl) rfl rfl rfl d7 g7) ?_
      refine x_nil ?_
      have hm9 : Mod (fun b => b = g) w8 (w8.setCell ⟨g, 7, none⟩ (.int .i64 ((c2 : Nat) : Int))) := (Mod.refl _ _).setCell _ _ fun _ => rfl
      have hL9 : RLg (w8.setCell ⟨g, 7, none⟩ (.int .i64 ((c2 : Nat) : Int))) S8 F g p { l with err := c2 } k := hL8.nums rfl hm9 fun hv hh => (heap_setCell_at (o := 7) (v := .int .i64 ((c2 : Nat) : Int)) hh).trans (by simp)
      have hgS8 : S8 g := hL8.fs g hgF'
      have hT8 := LTo.of_r hR8 HT6.out.ap fun b hb => (HL6'.out.below hd7).lt b (HL6'.out.fs b hb)
      have hD9 : RDk (w8.setCell ⟨g, 7, none⟩ (.int .i64 ((c2 : Nat) : Int))) S8 FD8 p d2 := hD8.turn hm9 (fun b hb => hb ▸ hgS8) (fun b hb e => hT8.ap g hgF' (e ▸ hb)) (fun _ h => .inl h) hD8.fs fun b hb => Nat.lt_of_lt_of_le (hD8.lt b hb) hm9.size
      have hT9 : LTo w (w8.setCell ⟨g, 7, none⟩ (.int .i64 ((c2 : Nat) : Int))) S F FD S8 FD8 := ((HT6.out.behind hd7).trans hT8).trans (LTo.of_mod S8 hT8.ap (hm9.mono fun x _ hx => .inl (hx ▸ hgF')))
      have HL9 := Lib.hid hL9
      have HD9 := Lib.hid hD9
      have HT9 := Lib.hid hT9
      have HWY := Lib.hid hwx
      have HC2 := Lib.hid hc2
      clear hL9 hD9 hT9 hm9 hL8 hh8 d7 g7 hD8 hR8 hS hS8 hT8 hd7 hwx hc2 hd2 hw1
      generalize w8.setCell ⟨g, 7, none⟩ (.int .i64 ((c2 : Nat) : Int)) = w9 at *
      obtain ⟨hv9, xs9, hh9, ho9, hl9, hx9, hown9⟩ := HL9.out.ex
      simp only at hh9
      obtain ⟨ha9, hc9, rfl, -, -, -⟩ := ho9.sl elB.len
      rw [hl9] at hh9 hown9
      have n7 := cell_of (o := 7) hh9 rfl
      by_cases hc0 : c2 = 0
      rotate_left
      · have hne' : (((c2 : Nat) : Int) != 0) = true := by rw [bne_iff_ne]; omega
        have hwy := HWY.out
        rw [if_pos hc0] at hwy
        have HW := Lib.hid hwy
        clear hwy hc0 hh9 ho9 hl9 hx9 hown9
        go_wp2
        go_ret
        rw [HW.out]
        exact ⟨rfl, S8, F, FD8, HL9.out, HD9.out, HT9.out.two⟩
      subst hc0
      simp only [Int.natCast_zero] at n7
      have hwy := HWY.out
      rw [if_neg (by simp)] at hwy
      have HW := Lib.hid hwy
      have n3 := cell_of (o := 3) hh9 rfl
      have n4 := cell_of (o := 4) hh9 rfl
      have n5 := cell_of (o := 5) hh9 rfl
      have g9 : ∀ o, w9.frozen? ⟨g, o, none⟩ = false := fun o => free_of hh9
      have HH9 := Lib.hid hh9
      have hS : w9.drew.cell? ⟨g, 3, none⟩ = some (.int .u64 (l.gen : Nat)) ∧ w9.drew.cell? ⟨g, 5, none⟩ = some (.int .u64 (l.next : Nat)) := ⟨n3, n5⟩
      have hw1 : IntKind.u64.wrap ((l.gen : Int) + 1) = (l.gen : Int) + 1 := IntWalk.u64_in _ (by omega)
      clear hwy hh9 ho9 hl9 hx9
      go_upto_region 17 with fail
      clear n7
      refine wp_region_x (fun w' => w'.cell? ⟨g, 3, none⟩ = some (.int .u64 (l.gen : Nat)) ∧ w'.cell? ⟨g, 5, none⟩ = some (.int .u64 (l.next : Nat))) [(0, 1), (1, 1), (2, 1), (3, 1), (4, 1), (5, 0), (6, 1), (7, 1), (8, 1), (9, 1), (10, 0), (11, 1), (12, 1), (13, 3), (14, 1), (15, 1), (16, 3)] (by kernel_rfl) (by kernel_rfl) (by intro d v c a w h; cases d <;> exact h) ?_
      iterate 5 (refine x_take rfl (fun K hK => ?_); go_simp; refine hK _ ?_; clear hK K)
      refine x_read rfl hS (fun w' h => exec_load1 ⟨⟨_, Tryz.underlying49, rfl⟩⟩ rfl h.1) ?_
      iterate 4 (refine x_take rfl (fun K hK => ?_); go_simp; refine hK _ ?_; clear hK K)
      refine x_read rfl hS (fun w' h => exec_load1 ⟨⟨_, Tryz.underlying49, rfl⟩⟩ rfl h.2) ?_
      iterate 2 (refine x_take rfl (fun K hK => ?_); go_simp; refine hK _ ?_; clear hK K)
      have hhD : w9.drew.heap[g]? = _ := HH9.out
      have hhA := heap_setCell_at (o := 3) (v := .int .u64 ((l.gen : Int) + 1)) hhD
      have hhB := heap_setCell_at (o := 4) (v := .int .u64 ((l.next : Nat) : Int)) hhA
      refine x_skip rfl (exec_store1 (v := .int .u64 ((l.gen : Int) + 1)) ⟨⟨_, Tryz.underlying49, rfl⟩⟩ (by kernel_rfl) rfl rfl rfl hS.1 (g9 3)) ?_
      iterate 2 (refine x_take rfl (fun K hK => ?_); go_simp; refine hK _ ?_; clear hK K)
      refine x_skip rfl (exec_store1 (v := .int .u64 ((l.next : Nat) : Int)) ⟨⟨_, Tryz.underlying49, rfl⟩⟩ (by kernel_rfl) rfl rfl rfl (cell_of (o := 4) hhA rfl) (free_of (o := 4) hhA)) ?_
      refine x_nil ?_
      have hmB : Mod (fun b => b = g) w9 ((w9.drew.setCell ⟨g, 3, none⟩ (.int .u64 ((l.gen : Int) + 1))).setCell ⟨g, 4, none⟩ (.int .u64 ((l.next : Nat) : Int))) := Mod.setCell (S := fun b => b = g) (Mod.setCell (S := fun b => b = g) (Mod.refl _ _).drew _ _ fun _ => rfl) _ _ fun _ => rfl
      have hhB' : ((w9.drew.setCell ⟨g, 3, none⟩ (.int .u64 ((l.gen : Int) + 1))).setCell ⟨g, 4, none⟩ (.int .u64 ((l.next : Nat) : Int))).heap[g]? = some (.cells #[.pointer (some ⟨p, 0, none⟩), .int .i64 (l.n : Nat), .int .u64 (l.epoch : Nat), .int .u64 ((l.gen : Int) + 1), .int .u64 (l.next : Nat), .int .u64 (l.next : Nat), .slice ha9 k hc9, .int .i64 0] 52 (0, 0)) := by
        rw [hhB]
        simp
      clear hhD hhA hhB hS
      generalize (w9.drew.setCell ⟨g, 3, none⟩ (.int .u64 ((l.gen : Int) + 1))).setCell ⟨g, 4, none⟩ (.int .u64 ((l.next : Nat) : Int)) = wB at *
      have b6 := cell_of (o := 6) hhB' rfl
      obtain ⟨wC, hmk, hOC, hbC, hzC⟩ := exec_makeA (P := Tryz.prog) elB (([], (none, 0, 0)) : List Nat × Sv) zeroBs k (by omega) wB
      have hhC := (hbC.block g (lt_of_block hhB')).trans hhB'
      have c6 := cell_of (o := 6) hhC rfl
      have f6 := free_of (o := 6) hhC
      have HMK := Lib.hid hmk
      have HOC := Lib.hid hOC
      have HBC := Lib.hid hbC
      have HZC := Lib.hid hzC
      have HHC := Lib.hid hhC
      have HMB := Lib.hid hmB
      have hgB := lt_of_block hhB'
      clear hmk hOC hbC hzC hhC hmB hhB' n3 n4 n5 g9
      go_wp2_with (first
        | ((with_reducible refine wpList_exec rfl (HMK.out _ _ _ _ _ _ _ _ ?_ ?_) ?_); rfl; rfl; go_frame)
        | fail)
      go_ret
      have hhE := heap_setCell_at (o := 6) (v := .slice (some ⟨wB.heap.size, 0, none⟩) k k) HHC.out
      have hmE : Mod (fun b => b = g) wC (wC.setCell ⟨g, 6, none⟩ (.slice (some ⟨wB.heap.size, 0, none⟩) k k)) := (Mod.refl _ _).setCell _ _ fun _ => rfl
      generalize wC.setCell ⟨g, 6, none⟩ (.slice (some ⟨wB.heap.size, 0, none⟩) k k) = wE at *
      have hFS8 := HL9.out.fs
      have hF8 : ∀ b, F b → b < w9.heap.size := fun b hb => HL9.out.lt b (hFS8 b hb)
      have s1 := HMB.out.size
      have s2 := HBC.out.size
      have s3 := hmE.size
      have hm9E : Mod (fun b => b = g) w9 wE := (HMB.out.trans (T := fun b => b = g) (mod0 HBC.out) (fun _ h => h) fun _ _ h => h.elim).trans hmE (fun _ h => h) fun _ _ h => h
      have hgS8 : S8 g := hFS8 g hgF'
      have hDE := HD9.out.turn (S' := fun b => S8 b ∨ b = wB.heap.size) hm9E (fun b hb => hb ▸ hgS8) (fun b hb e => HT9.out.ap g hgF' (e ▸ hb)) (fun b hb => hb.imp id fun e => by rw [e]; exact s1) (fun b hb => .inl (HD9.out.fs b hb)) (fun b hb => by
        rcases hb with hb | hb
        · exact Nat.lt_of_lt_of_le (HD9.out.lt b hb) hm9E.size
        · rw [hb]
          have := HZC.out
          omega)
      have hst : ∀ b, S8 b ∨ b = wB.heap.size → b < wE.heap.size := hDE.lt
      rw [HW.out]
      refine ⟨rfl, fun b => S8 b ∨ b = wB.heap.size, fun b => F b ∨ b = wB.heap.size, FD8, ⟨⟨_, List.replicate k ([], (none, 0, 0)), hhE.trans (by simp [HE0.out]), (HOC.out.mono (Nat.zero_le _)).kept s3 fun r hr => ?_, by rw [List.length_replicate], fun j x hj => ?_, fun r hr => ?_⟩, .inl hgF', fun b hb => hb.imp (hFS8 b) id, hst⟩, hDE, ?_⟩
      · cases hr
        exact hmE.block _ (by have := HZC.out; show wB.heap.size < wC.heap.size; omega) (by show ¬ wB.heap.size = g; omega)
      · have hx := List.eq_of_mem_replicate (List.mem_of_getElem? hj)
        rw [hx]
        exact ⟨rfl, LSl.nil _, fun r hr => by cases hr⟩
      · cases hr
        exact ⟨by show wB.heap.size ≠ g; omega, .inr rfl⟩
      · refine ⟨HT9.out.mod.trans hm9E (fun _ h => h) fun x _ hx => .inl (hx ▸ hgF'), fun b hb => .inl (HT9.out.sub b hb), fun b hb => ?_, HT9.out.own, fun b hb => ?_, fun b hb e => ?_⟩
        · rcases hb with hb | hb
          · exact HT9.out.new b hb
          · have := HT9.out.mod.size
            exact .inr (by omega)
        · rcases hb with hb | hb
          · exact .inl hb
          · have := HT9.out.mod.size
            exact .inr (by omega)
        · rcases hb with hb | hb
          · exact HT9.out.ap b hb e
          · have := HD9.out.lt b (HD9.out.fs b e)
            omega
end Go.Proofs.YtmakpbjknklpiaaGreat

/- The document's Open of a log: the newest epoch; plain. -/
namespace Go.Proofs.YtmakpbjknklpiaaGreat
open Go.RowKit Go.Tn Go.Tn.Bt Go.Tn.Lp Go.Tn.Dk
theorem numOf_front {b : List Nat} (hb : ∀ x ∈ b, x < 256) (hl : b.length = 8) : numOf b / 1099511627776 = numOf (b.take 3) := by
  have h1 : b = b.take 3 ++ b.drop 3 := (List.take_append_drop 3 b).symm
  have h2 : (b.drop 3).length = 5 := by rw [List.length_drop]; omega
  have h3 := numOf_append (b.take 3) (b.drop 3)
  rw [← h1, h2] at h3
  have h4 := numOf_lt 5 (b.drop 3) h2 fun x hx => hb x (List.mem_of_mem_drop hx)
  have e : (256 : Nat) ^ 5 = 1099511627776 := by decide
  rw [e] at h3 h4
  omega
/-- Ends, read from three bytes each. -/
theorem ends_three {b : List Nat} (h : secB b) : endsB b = (numOf (b.take 3), numOf ((b.drop 120).take 3)) := by
  unfold endsB
  rw [numOf_front (fun x hx => h.2 x (List.mem_of_mem_take hx)) (by rw [List.length_take, h.1]; rfl), numOf_front (fun x hx => h.2 x (List.mem_of_mem_drop hx)) (by rw [List.length_drop, h.1])]
  rw [List.take_take]
  rfl
end Go.Proofs.YtmakpbjknklpiaaGreat

/- The document's Open of a log, walked. -/
namespace Go.Proofs.YtmakpbjknklpiaaGreat
open Go.RowKit Go.Tn Go.Tn.Bt Go.Tn.Lp Go.Tn.Dk
set_option maxRecDepth 20000 in
theorem zopen_arg {w : World} {S F : Nat → Prop} {p : Nat} {d : Dsk} (h : RDk w S F p d) (n : Int) (hn : n < 2 ∨ (d.L.length : Int) - 3 < n) : Calls Tryz.prog 9 #[.pointer (some ⟨p, 0, none⟩), .int .i64 n] w fun e w' => e = .returned (.tuple #[.pointer none, .int .i64 2]) ∧ w' = w := by
  have hhi := h.ok.hi
  obtain ⟨lv, qv, xs, qs, h1, h2, h3, -⟩ := h.ex
  have hxl : xs.length = d.L.length := by rw [← h2]; simp
  obtain ⟨la, lc, rfl, -, -, -⟩ := h3.sl elB.len
  rw [hxl] at h1
  have c0 := cell_of (o := 0) h1 rfl
  have hL63 : (d.L.length : Int) ≤ 4096 := by omega
  have hw1 : IntKind.i64.wrap ((d.L.length : Int) - 3) = (d.L.length : Int) - 3 := IntWalk.i64_in _ (by omega)
  clear h h1 h2 h3 hxl
  by_cases hn2 : n < 2
  · have e1 : decide (n < 2) = true := decide_eq_true hn2
    clear hn
    go_enter Tryz.func9, Tryz.ntmps9
    go_wp2
    go_ret2
    exact ⟨rfl, rfl⟩
  · have e1 : decide (n < 2) = false := decide_eq_false hn2
    have e2 : decide ((d.L.length : Int) - 3 < n) = true := decide_eq_true (by omega)
    clear hn
    go_enter Tryz.func9, Tryz.ntmps9
    go_wp2
    go_ret2
    exact ⟨rfl, rfl⟩
end Go.Proofs.YtmakpbjknklpiaaGreat
