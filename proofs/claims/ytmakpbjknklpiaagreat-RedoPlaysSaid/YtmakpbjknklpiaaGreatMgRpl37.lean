/- The document's Open of a log, walked: in a ring's range. -/
import Derived.Test.YtmakpbjknklpiaaGreatMgRpl36
/- The document's Open of a log, walked: in a ring's range. -/
namespace Go.Proofs.YtmakpbjknklpiaaGreat
open Go.RowKit Go.Tn Go.Tn.Bt Go.Tn.Lp Go.Tn.Dk
theorem newest_succ (d : Dsk) (k : Nat) : newestB d (k + 1) = max (max (newestB d k) (endsB (d.get k)).1) (endsB (d.get k)).2 := rfl
theorem three_lt {b : List Nat} (hb : ∀ x ∈ b, x < 256) (hl : b.length ≤ 3) : numOf b < 16777216 := by
  have := numOf_lt b.length b rfl hb
  have h2 : 256 ^ b.length ≤ 256 ^ 3 := Nat.pow_le_pow_right (by decide) hl
  omega
/-- Where the loop that reads the ring stands. -/
def ZAt (w : World) (S FD F : Nat → Prop) (g p N n gt : Nat) (lo : Lg) (d : Dsk) (fv kv : Value) (wi : World) : Prop := ∃ (li : Lg) (fl k : Nat), fv = .int .u64 (fl : Nat) ∧ kv = .int .i64 (k : Nat) ∧ fl < 2 ^ 63 ∧ li.n = n ∧ li.tail = gt ∧ gt ≤ li.next ∧ li.next ≤ gt + n ∧ k + li.free ≤ n ∧
  RLg wi S F g p li N ∧ RDk wi S FD p d ∧ Below w.heap.size w wi ∧ replayGo d (li.free + 1) li fl = lo
theorem joinB_le {ps : List Pc} {b : List Nat} (h : joinB ps = some b) : b = recOf ps ∧ b.length ≤ 8192 := by
  have hbe : b = recOf ps := by
    cases ps with
    | nil => cases h
    | cons q r =>
      simp only [joinB] at h
      split at h
      · split at h
        · exact (Option.some.inj h).symm
        · cases h
      · cases h
  refine ⟨hbe, Nat.le_of_not_lt fun hl => ?_⟩
  rw [hbe] at hl
  rw [join_big hl] at h
  cases h
set_option maxRecDepth 20000 in
set_option maxHeartbeats 8000000 in
theorem zopen_main {w : World} {S FD : Nat → Prop} {p : Nat} {d : Dsk} (h : RDk w S FD p d) (n : Nat) (hn2 : 2 ≤ n) (hnd : n + 3 ≤ d.L.length) (lo : Lg) (ho : openB d n = some lo) :
    Calls Tryz.prog 9 #[.pointer (some ⟨p, 0, none⟩), .int .i64 n] w fun e w' => ∃ g F S', e = .returned (.tuple #[.pointer (some ⟨g, 0, none⟩), .int .i64 0]) ∧ RLg w' S' F g p lo (d.L.length - 2 - n) ∧ RDk w' S' FD p d ∧ Below w.heap.size w w' ∧ (∀ b, S b → S' b) ∧ (∀ b, S' b → S b ∨ w.heap.size ≤ b) ∧ ∀ b, F b → w.heap.size ≤ b := by
  have hhi := h.ok.hi
  have hdok := h.ok
  obtain ⟨lv, qv, xs, qs, h1, h2, h3, -⟩ := h.ex
  have hxl : xs.length = d.L.length := by rw [← h2]; simp
  obtain ⟨la, lc, rfl, -, -, -⟩ := h3.sl elB.len
  rw [hxl] at h1
  have c0 := cell_of (o := 0) h1 rfl
  have hpw := lt_of_block h1
  have hL63 : (d.L.length : Int) ≤ 4096 := by omega
  have hni : (n : Int) ≤ 4096 := by omega
  have hn0 : (2 : Int) ≤ (n : Int) := by omega
  have e1 : decide ((n : Int) < 2) = false := decide_eq_false (by omega)
  have e2 : decide ((d.L.length : Int) - 3 < (n : Int)) = false := decide_eq_false (by omega)
  have hb1 : Below w.heap.size w (w.alloc (.cells #[.pointer (some ⟨p, 0, none⟩), .int .i64 n, .int .u64 0, .int .u64 0, .int .u64 0, .int .u64 0, .slice none 0 0, .int .i64 0] 52)) := (Below.refl _ _).alloc (Nat.le_refl _) _
  have hH : (w.alloc (.cells #[.pointer (some ⟨p, 0, none⟩), .int .i64 n, .int .u64 0, .int .u64 0, .int .u64 0, .int .u64 0, .slice none 0 0, .int .i64 0] 52)).heap[w.heap.size]? = some (.cells #[.pointer (some ⟨p, 0, none⟩), .int .i64 n, .int .u64 0, .int .u64 0, .int .u64 0, .int .u64 0, .slice none 0 0, .int .i64 0] 52 (0, 0)) := heap_alloc_at
  obtain ⟨g, hg⟩ : ∃ g, w.heap.size = g := ⟨_, rfl⟩
  rw [hg] at hH
  have HG := Lib.hid hg
  have HD := Lib.hid h
  have HDOK := Lib.hid hdok
  have HB1 := Lib.hid hb1
  have HH := Lib.hid hH
  have HO := Lib.hid ho
  have HND := Lib.hid hnd
  clear h hdok h1 h2 h3 hxl hb1 hH ho hg
  go_enter Tryz.func9, Tryz.ntmps9
  go_upto_region 4 with fail
  have hgw := HG.out
  rw [hgw]
  clear hgw
  generalize w.alloc (.cells #[.pointer (some ⟨p, 0, none⟩), .int .i64 n, .int .u64 0, .int .u64 0, .int .u64 0, .int .u64 0, .slice none 0 0, .int .i64 0] 52) = w1 at *
  clear c0
  go_wp2_with fail
  go_loopw [7, 8, 9, 10] (fun iv _ _ _ wi => ∃ k : Nat, k ≤ 2 + n ∧ iv = .int .i64 k ∧ wi.heap[g]? = some (.cells #[.pointer (some ⟨p, 0, none⟩), .int .i64 n, .int .u64 (newestB d k : Nat), .int .u64 0, .int .u64 0, .int .u64 0, .slice none 0 0, .int .i64 0] 52 (0, 0)) ∧ newestB d k < 16777216 ∧ Below w.heap.size w wi) (fun iv _ _ _ _ => 2 + n - (intOf iv).toNat)
  case atStart => exact ⟨0, Nat.zero_le _, rfl, HH.out, (show 0 < 16777216 by decide), HB1.out⟩
  case round =>
    obtain ⟨k, hk, rfl, hh, hE, hb⟩ := hrel
    have hki : (k : Int) ≤ 4100 := by omega
    by_cases hkl : k < 2 + n
    · have hdk : decide ((k : Int) < 2 + (n : Int)) = true := decide_eq_true (by omega)
      have hdk' : decide (k < 2 + n) = true := decide_eq_true hkl
      have his := xis_any (HD.out.below hb) k (by have := HND.out; omega)
      have hsec := HDOK.out.get (i := k) (by have := HND.out; omega)
      have hen := ends_three hsec
      have hns := newest_succ d k
      rw [hen] at hns
      simp only at hns
      obtain ⟨bs, hbs⟩ : ∃ x, d.get k = x := ⟨_, rfl⟩
      rw [hbs] at his hsec hns
      have hx3 := three_lt (b := bs.take 3) (fun x hx => hsec.2 x (List.mem_of_mem_take hx)) (by rw [List.length_take]; omega)
      have hy3 := three_lt (b := (bs.drop 120).take 3) (fun x hx => hsec.2 x (List.mem_of_mem_drop (List.mem_of_mem_take hx))) (by rw [List.length_take]; omega)
      have hvx := fun W s2 c2 (hW : LSl en8 1 W (.slice s2 128 c2) bs) => yvalue_any W (.slice s2 3 c2) (bs.take 3) (hW.take (by rw [hsec.1]; decide)) (fun x hx => hsec.2 x (List.mem_of_mem_take hx)) (by rw [List.length_take]; omega)
      obtain ⟨X, hX⟩ : ∃ X, numOf (bs.take 3) = X := ⟨_, rfl⟩
      obtain ⟨Y, hY⟩ : ∃ Y, numOf ((bs.drop 120).take 3) = Y := ⟨_, rfl⟩
      obtain ⟨E, hEe⟩ : ∃ E, newestB d k = E := ⟨_, rfl⟩
      rw [hX, hY, hEe] at hns
      rw [hX] at hx3
      rw [hY] at hy3
      rw [hEe] at hh hE
      simp only [hX] at hvx
      have HVX := Lib.hid hvx
      have HNS := Lib.hid hns
      have HB := Lib.hid hb
      have HHr := Lib.hid hh
      have HSEC := Lib.hid hsec
      have HYE := Lib.hid hY
      have hgwr := lt_of_block hh
      clear hvx hns hb hh hsec hY hX hEe hen hbs
      go_upto_region 8 with (first
        | (go_at_call 26; refine his.mono ?_; rintro e w2 ⟨⟨s2, rfl, hdat⟩, hw⟩; obtain rfl := hw.symm; obtain ⟨q1, q2, q3⟩ := s2; have HDAT := Lib.hid hdat; clear hw hdat his; go_frame)
        | fail)
      obtain ⟨ao, cap, hvv, c1, c2, c3⟩ := id HDAT.out.rd
      obtain ⟨rfl, rfl, rfl⟩ : q1 = ao ∧ q2 = bs.length ∧ q3 = cap := by simpa [sv] using hvv
      obtain ⟨db, doff, rfl, hdb, -⟩ := c3 (by rw [HSEC.out.1]; decide)
      have hrd := HDAT.out.rd
      simp only [sv] at hrd ⊢
      rw [HSEC.out.1] at hrd c1 ⊢
      have hcap : (128 : Int) ≤ (q3 : Int) := by omega
      have hcap2 : ¬ q3 = 120 := by omega
      have hq3 : 3 ≤ q3 := by omega
      have hq123 : 123 ≤ q3 := by omega
      have hq3i : (3 : Int) ≤ (q3 : Int) := by omega
      have hq123i : (123 : Int) ≤ (q3 : Int) := by omega
      have hry : LSl en8 1 wr (.slice (some ⟨db, doff + 120, none⟩) 3 (q3 - 120)) ((bs.drop 120).take 3) := by
        have h1 := hrd.take (i := 123) (by rw [HSEC.out.1]; decide)
        have h2 := h1.drop2 (i := 120) (ad := some ⟨db, doff + 120, none⟩) (ln := 3) (cn := q3 - 120) (by rw [List.length_take, HSEC.out.1]; decide) (by rw [if_neg hcap2]; simp [addr_add]) (by decide) rfl
        rw [List.drop_take] at h2
        exact h2
      have hvy := yvalue_any wr.drew _ _ (hry.below (Below.refl _ wr).drew) (fun x hx => HSEC.out.2 x (List.mem_of_mem_drop (List.mem_of_mem_take hx))) (by rw [List.length_take]; omega)
      rw [HYE.out] at hvy
      have hvx := HVX.out wr.drew _ _ (hrd.below (Below.refl _ wr).drew)
      unfold maxLen at c2
      have HVXX := Lib.hid hvx
      have HVYY := Lib.hid hvy
      clear hry hrd hvy hvx hvv c3 HVX
      refine wp_region_x (fun w' => True) [(0, 1), (1, 1), (3, 1), (4, 1), (2, 2), (5, 2), (6, 1), (7, 1)] (by kernel_rfl) (by kernel_rfl) (by intro d v c a w h; cases d <;> exact h) ?_
      iterate 4 (refine x_take rfl (fun K hK => ?_); go_simp; refine hK _ ?_; clear hK K)
      refine x_show' rfl (fun K hK => ?_)
      go_simp
      refine HVXX.out.mono ?_
      rintro e w7 ⟨rfl, hw⟩
      obtain rfl := hw.symm
      refine hK _ _ trivial ?_
      clear hK K hw
      refine x_show' rfl (fun K hK => ?_)
      go_simp
      refine HVYY.out.mono ?_
      rintro e w7 ⟨rfl, hw⟩
      obtain rfl := hw.symm
      refine hK _ _ trivial ?_
      clear hK K hw
      iterate 2 (refine x_take rfl (fun K hK => ?_); go_simp; refine hK _ ?_; clear hK K)
      refine x_nil ?_
      have hh2 : wr.drew.heap[g]? = some (.cells #[.pointer (some ⟨p, 0, none⟩), .int .i64 n, .int .u64 (E : Nat), .int .u64 0, .int .u64 0, .int .u64 0, .slice none 0 0, .int .i64 0] 52 (0, 0)) := HHr.out
      have hfr2 := free_of (o := 2) hh2
      have hs2 := cell_of (o := 2) hh2 rfl
      have HH2 := Lib.hid hh2
      clear hh2
      have HBW := Lib.hid (HB.out.drew)
      clear HVXX HVYY
      generalize wr.drew = wd at *
      by_cases hXE : E < X
      · have hd1 : decide ((E : Int) < (X : Int)) = true := decide_eq_true (by omega)
        by_cases hYX : X < Y
        · have hd2 : decide ((X : Int) < (Y : Int)) = true := decide_eq_true (by omega)
          go_wp2_with fail
          have hq : newestB d (k + 1) = Y := by rw [HNS.out]; omega
          exact ⟨⟨k + 1, hkl, rfl, by rw [hq]; have hh2 := HH2.out; have hlt := lt_of_block hh2; first | exact (heap_setCell_at (o := 2) (v := .int .u64 (X : Nat)) hh2).trans (by simp) | (have ha := (heap_setCell_at (o := 2) (v := .int .u64 (X : Nat)) hh2).trans (by simp; rfl); exact (heap_setCell_at (o := 2) (v := .int .u64 (Y : Nat)) ha).trans (by simp)), by rw [hq]; omega, (HBW.out.setCell (p := ⟨g, 2, none⟩) (Nat.le_of_eq HG.out) _).setCell (p := ⟨g, 2, none⟩) (Nat.le_of_eq HG.out) _⟩, by simp only [intOf]; omega⟩
        · have hd2 : decide ((X : Int) < (Y : Int)) = false := decide_eq_false (by omega)
          go_wp2_with fail
          have hq : newestB d (k + 1) = X := by rw [HNS.out]; omega
          exact ⟨⟨k + 1, hkl, rfl, by rw [hq]; have hh2 := HH2.out; have hlt := lt_of_block hh2; first | exact (heap_setCell_at (o := 2) (v := .int .u64 (X : Nat)) hh2).trans (by simp) | (have ha := (heap_setCell_at (o := 2) (v := .int .u64 (X : Nat)) hh2).trans (by simp; rfl); exact (heap_setCell_at (o := 2) (v := .int .u64 (X : Nat)) ha).trans (by simp)), by rw [hq]; omega, HBW.out.setCell (p := ⟨g, 2, none⟩) (Nat.le_of_eq HG.out) _⟩, by simp only [intOf]; omega⟩
      · have hd1 : decide ((E : Int) < (X : Int)) = false := decide_eq_false (by omega)
        by_cases hYX : E < Y
        · have hd2 : decide ((E : Int) < (Y : Int)) = true := decide_eq_true (by omega)
          go_wp2_with fail
          have hq : newestB d (k + 1) = Y := by rw [HNS.out]; omega
          exact ⟨⟨k + 1, hkl, rfl, by rw [hq]; have hh2 := HH2.out; have hlt := lt_of_block hh2; first | exact (heap_setCell_at (o := 2) (v := .int .u64 (Y : Nat)) hh2).trans (by simp) | (have ha := (heap_setCell_at (o := 2) (v := .int .u64 (Y : Nat)) hh2).trans (by simp; rfl); exact (heap_setCell_at (o := 2) (v := .int .u64 (Y : Nat)) ha).trans (by simp)), by rw [hq]; omega, HBW.out.setCell (p := ⟨g, 2, none⟩) (Nat.le_of_eq HG.out) _⟩, by simp only [intOf]; omega⟩
        · have hd2 : decide ((E : Int) < (Y : Int)) = false := decide_eq_false (by omega)
          go_wp2_with fail
          have hq : newestB d (k + 1) = E := by rw [HNS.out]; omega
          exact ⟨⟨k + 1, hkl, rfl, by rw [hq]; exact HH2.out, by rw [hq]; omega, HBW.out⟩, by simp only [intOf]; omega⟩
    · have hdk : decide ((k : Int) < 2 + (n : Int)) = false := decide_eq_false (by omega)
      have hdk' : decide (k < 2 + n) = false := decide_eq_false hkl
      obtain rfl : k = 2 + n := by omega
      have hf : newestB d (2 + n) < 16777215 := by
        have hO := HO.out
        unfold openB at hO
        split at hO
        · cases hO
        · omega
      have hl2 : lo = replayL (log0 n (newestB d (2 + n) + 1) ((d.head 0).getD hd0).gen ((d.head 0).getD hd0).tail) d (if (d.head 0).isSome = true then ((d.head 0).getD hd0).floor else 1) := by
        have hO := HO.out
        unfold openB at hO
        rw [if_neg (by omega)] at hO
        exact (Option.some.inj hO).symm
      have htl : ((d.head 0).getD hd0).tail < 2 ^ 41 := Nat.lt_trans (headD_lt d 0).1 (by decide)
      have hfl24 : ((d.head 0).getD hd0).floor < 2 ^ 63 := Nat.lt_trans (headD_lt d 0).2 (by decide)
      have HLL := Lib.hid hl2
      clear hl2
      generalize newestB d (2 + n) = nw at *
      have hge2 : decide ((16777215 : Int) ≤ (nw : Nat)) = false := decide_eq_false (by omega)
      have hnwi : (nw : Int) ≤ 16777214 := by omega
      have hfr2 := free_of (o := 2) hh
      have hs2 := cell_of (o := 2) hh rfl
      have hbA := hb.setCell (p := ⟨g, 2, none⟩) (Nat.le_of_eq HG.out) (.int .u64 ((nw : Int) + 1))
      have hhA : (wr.setCell ⟨g, 2, none⟩ (.int .u64 ((nw : Int) + 1))).heap[g]? = some (.cells #[.pointer (some ⟨p, 0, none⟩), .int .i64 n, .int .u64 ((nw + 1 : Nat) : Int), .int .u64 0, .int .u64 0, .int .u64 0, .slice none 0 0, .int .i64 0] 52 (0, 0)) := by
        rw [Int.natCast_add]
        exact (heap_setCell_at (o := 2) (v := .int .u64 ((nw : Int) + 1)) hh).trans (by simp)
      have HBA := Lib.hid hbA
      have HHA := Lib.hid hhA
      clear hb hh hbA hhA
      go_upto_region 16 with fail
      clear hs2 hfr2
      generalize wr.setCell ⟨g, 2, none⟩ (.int .u64 ((nw : Int) + 1)) = wA at *
      have hld := hxload_any (HD.out.below HBA.out) 0 (by have := HND.out; omega)
      have hHV : hloadV (d.head 0) = .tuple #[.agg (hdCs ((d.head 0).getD hd0)), .bool (d.head 0).isSome, .int .i64 0] := rfl
      rw [hHV] at hld
      clear hHV
      generalize (d.head 0).getD hd0 = X at *
      generalize (d.head 0).isSome = sm at *
      obtain ⟨gg, gt, gf⟩ := X
      simp only [hdCs_lit] at *
      have HLD := Lib.hid hld
      clear hld
      go_upto_region 17 with (first
        | (go_at_call 39; refine HLD.out.mono ?_; rintro e w4 ⟨rfl, hb4⟩; have HB4 := Lib.hid hb4; clear hb4; go_frame)
        | fail)
      have hgA := lt_of_block HHA.out
      have hAz := HB4.out.size
      have hhX : (w4.alloc (.cells #[.int .u64 (gg : Nat), .int .u64 (gt : Nat), .int .u64 (gf : Nat)] 82)).heap[w4.heap.size]? = some (.cells #[.int .u64 (gg : Nat), .int .u64 (gt : Nat), .int .u64 (gf : Nat)] 82 (0, 0)) := heap_alloc_at
      have hb5 : Below wA.heap.size wA (w4.alloc (.cells #[.int .u64 (gg : Nat), .int .u64 (gt : Nat), .int .u64 (gf : Nat)] 82)) := HB4.out.alloc hAz _
      have hh5 := (hb5.block g hgA).trans HHA.out
      have hs2 := cell_of (o := 2) hhX rfl
      have hgx : w4.heap.size ≠ g := by omega
      have HHX := Lib.hid hhX
      have HB5 := Lib.hid hb5
      have HH5 := Lib.hid hh5
      clear hhX hb5 hh5
      generalize w4.alloc (.cells #[.int .u64 (gg : Nat), .int .u64 (gt : Nat), .int .u64 (gf : Nat)] 82) = w5 at *
      cases sm
      all_goals (
        go_upto_region 20 with fail
        clear hs2
        have hS : w5.drew.cell? ⟨w4.heap.size, 0, none⟩ = some (.int .u64 (gg : Nat)) ∧ w5.drew.cell? ⟨w4.heap.size, 1, none⟩ = some (.int .u64 (gt : Nat)) := ⟨cell_of (o := 0) HHX.out rfl, cell_of (o := 1) HHX.out rfl⟩
        have hh5 : w5.drew.heap[g]? = _ := HH5.out
        refine wp_region_x (fun w' => w'.cell? ⟨w4.heap.size, 0, none⟩ = some (.int .u64 (gg : Nat)) ∧ w'.cell? ⟨w4.heap.size, 1, none⟩ = some (.int .u64 (gt : Nat))) [(0, 1), (1, 1), (2, 1), (3, 1), (4, 0), (5, 1), (6, 0), (7, 1), (8, 0), (9, 1), (10, 1), (11, 2), (12, 1), (13, 1), (14, 2), (15, 1), (16, 1), (17, 2)] (by kernel_rfl) (by kernel_rfl) (by intro d v c a w h; cases d <;> exact h) ?_
        iterate 4 (refine x_take rfl (fun K hK => ?_); go_simp; refine hK _ ?_; clear hK K)
        refine x_read rfl hS (fun w' h => exec_load1 ⟨⟨_, Tryz.underlying49, rfl⟩⟩ rfl h.1) ?_
        iterate 1 (refine x_take rfl (fun K hK => ?_); go_simp; refine hK _ ?_; clear hK K)
        refine x_read rfl hS (fun w' h => exec_load1 ⟨⟨_, Tryz.underlying49, rfl⟩⟩ rfl h.2) ?_
        iterate 1 (refine x_take rfl (fun K hK => ?_); go_simp; refine hK _ ?_; clear hK K)
        refine x_read rfl hS (fun w' h => exec_load1 ⟨⟨_, Tryz.underlying49, rfl⟩⟩ rfl h.2) ?_
        iterate 2 (refine x_take rfl (fun K hK => ?_); go_simp; refine hK _ ?_; clear hK K)
        have k1 := heap_setCell_at (o := 3) (v := (.int .u64 ((gg : Nat) : Int))) hh5
        have m1 : Mod (fun b => b = g) w5.drew (w5.drew.setCell ⟨g, 3, none⟩ (.int .u64 ((gg : Nat) : Int))) := (Mod.refl _ _).setCell _ _ fun _ => rfl
        have s1 := And.intro (cell_mod hS.1 m1 hgx) (cell_mod hS.2 m1 hgx)
        refine x_skipS rfl (exec_store1 (v := (.int .u64 ((gg : Nat) : Int))) ⟨⟨_, Tryz.underlying49, rfl⟩⟩ (by kernel_rfl) rfl rfl rfl (cell_of (o := 3) hh5 rfl) (free_of (o := 3) hh5)) s1 ?_
        generalize w5.drew.setCell ⟨g, 3, none⟩ (.int .u64 ((gg : Nat) : Int)) = W1 at *
        iterate 2 (refine x_take rfl (fun K hK => ?_); go_simp; refine hK _ ?_; clear hK K)
        have k2 := heap_setCell_at (o := 4) (v := (.int .u64 ((gt : Nat) : Int))) k1
        have m2 : Mod (fun b => b = g) W1 (W1.setCell ⟨g, 4, none⟩ (.int .u64 ((gt : Nat) : Int))) := (Mod.refl _ _).setCell _ _ fun _ => rfl
        have s2 := And.intro (cell_mod s1.1 m2 hgx) (cell_mod s1.2 m2 hgx)
        refine x_skipS rfl (exec_store1 (v := (.int .u64 ((gt : Nat) : Int))) ⟨⟨_, Tryz.underlying49, rfl⟩⟩ (by kernel_rfl) rfl rfl rfl (cell_of (o := 4) k1 rfl) (free_of (o := 4) k1)) s2 ?_
        generalize W1.setCell ⟨g, 4, none⟩ (.int .u64 ((gt : Nat) : Int)) = W2 at *
        iterate 2 (refine x_take rfl (fun K hK => ?_); go_simp; refine hK _ ?_; clear hK K)
        have k3 := heap_setCell_at (o := 5) (v := (.int .u64 ((gt : Nat) : Int))) k2
        have m3 : Mod (fun b => b = g) W2 (W2.setCell ⟨g, 5, none⟩ (.int .u64 ((gt : Nat) : Int))) := (Mod.refl _ _).setCell _ _ fun _ => rfl
        have s3 := And.intro (cell_mod s2.1 m3 hgx) (cell_mod s2.2 m3 hgx)
        refine x_skipS rfl (exec_store1 (v := (.int .u64 ((gt : Nat) : Int))) ⟨⟨_, Tryz.underlying49, rfl⟩⟩ (by kernel_rfl) rfl rfl rfl (cell_of (o := 5) k2 rfl) (free_of (o := 5) k2)) s3 ?_
        generalize W2.setCell ⟨g, 5, none⟩ (.int .u64 ((gt : Nat) : Int)) = W3 at *
        refine x_nil ?_
        have hm3 : Mod (fun b => b = g) w5.drew W3 := (m1.trans m2 (fun _ h => h) fun _ _ h => h).trans m3 (fun _ h => h) fun _ _ h => h
        have hb3 : Below w.heap.size w W3 := by
          have h1 : Below w.heap.size w w5 := HBA.out.trans (HB5.out.mono HBA.out.size)
          exact h1.drew.trans (hm3.below h1.drew.size fun x hx hxg => by have := HG.out; omega)
        have hD3 := HD.out.below hb3
        clear m1 m2 m3 s1 s2 s3 k1 k2 hS hh5
        obtain ⟨lv3, qv3, xs3, qs3, j1, j2, j3, -⟩ := hD3.ex
        have hxl3 : xs3.length = d.L.length := by rw [← j2]; simp
        obtain ⟨la3, lc3, rfl, -, -, -⟩ := j3.sl elB.len
        rw [hxl3] at j1
        have c0 := cell_of (o := 0) j1 rfl
        obtain ⟨N, hN⟩ : ∃ N, d.L.length - 2 - n = N := ⟨_, rfl⟩
        have hNi : (d.L.length : Int) - 2 - (n : Int) = (N : Int) := by have := HND.out; omega
        obtain ⟨wC, hmk, hOC, hbC, hzC⟩ := exec_makeA (P := Tryz.prog) elB (([], (none, 0, 0)) : List Nat × Sv) zeroBs N (by omega) W3
        have gW3 : g < W3.heap.size := lt_of_block k3
        have hhC : wC.heap[g]? = some (.cells #[.pointer (some ⟨p, 0, none⟩), .int .i64 n, .int .u64 ((nw + 1 : Nat) : Int), .int .u64 (gg : Nat), .int .u64 (gt : Nat), .int .u64 (gt : Nat), .slice none 0 0, .int .i64 0] 52 (0, 0)) := ((hbC.block g (lt_of_block k3)).trans k3).trans (by simp)
        have c6 := cell_of (o := 6) hhC rfl
        have f6 := free_of (o := 6) hhC
        have HMK := Lib.hid hmk
        have HOC := Lib.hid hOC
        have HBC := Lib.hid hbC
        have HHC := Lib.hid hhC
        have HZC := Lib.hid hzC
        have HB3 := Lib.hid hb3
        have HN := Lib.hid hN
        clear hmk hOC hbC hzC hhC k3 hD3 j1 j2 j3 hxl3 hb3 hm3 hN
        go_upto_region 22 with (first
          | ((try rw [hNi]); (with_reducible refine wpList_exec rfl (HMK.out _ _ _ _ _ _ _ _ ?_ ?_) ?_); rfl; rfl; go_frame)
          | fail)
        have hhE : (wC.setCell ⟨g, 6, none⟩ (.slice (some ⟨W3.heap.size, 0, none⟩) N N)).heap[g]? = some (.cells #[.pointer (some ⟨p, 0, none⟩), .int .i64 n, .int .u64 ((nw + 1 : Nat) : Int), .int .u64 (gg : Nat), .int .u64 (gt : Nat), .int .u64 (gt : Nat), .slice (some ⟨W3.heap.size, 0, none⟩) N N, .int .i64 0] 52 (0, 0)) := (heap_setCell_at (o := 6) (v := .slice (some ⟨W3.heap.size, 0, none⟩) N N) HHC.out).trans (by simp)
        have hmE : Mod (fun b => b = g) wC (wC.setCell ⟨g, 6, none⟩ (.slice (some ⟨W3.heap.size, 0, none⟩) N N)) := (Mod.refl _ _).setCell _ _ fun _ => rfl
        generalize wC.setCell ⟨g, 6, none⟩ (.slice (some ⟨W3.heap.size, 0, none⟩) N N) = wE at *
        clear c6 f6 c0
        have z1 := HZC.out
        have z2 := hmE.size
        have z3 := HB3.out.size
        have z4 := HG.out
        have z5 := lt_of_block hhE
        have hbE : Below w.heap.size w wE := (HB3.out.trans (HBC.out.mono HB3.out.size)).trans (hmE.below (Nat.le_trans HB3.out.size HBC.out.size) fun x hx e => by omega)
        obtain ⟨T, hT⟩ : ∃ T : Nat → Prop, T = fun b => S b ∨ b = g ∨ b = W3.heap.size := ⟨_, rfl⟩
        obtain ⟨F, hF⟩ : ∃ F : Nat → Prop, F = fun b => b = g ∨ b = W3.heap.size := ⟨_, rfl⟩
        have t1 : ∀ b, S b → T b := fun b hb => by rw [hT]; exact .inl hb
        have t2 : ∀ b, T b → S b ∨ w.heap.size ≤ b := fun b hb => by
          rw [hT] at hb
          rcases hb with hb | hb | hb
          · exact .inl hb
          · exact .inr (by omega)
          · exact .inr (by omega)
        have t3 : ∀ b, F b → w.heap.size ≤ b := fun b hb => by
          rw [hF] at hb
          rcases hb with hb | hb <;> omega
        have t4 : ∀ b, F b → T b := fun b hb => by
          rw [hF] at hb
          rw [hT]
          exact .inr hb
        have t5 : F g := by rw [hF]; exact .inl rfl
        have t6 : F W3.heap.size := by rw [hF]; exact .inr rfl
        have t7 : ∀ b, T b → b < wE.heap.size := fun b hb => by
          rw [hT] at hb
          rcases hb with hb | hb | hb
          · exact Nat.lt_of_lt_of_le (HD.out.lt b hb) hbE.size
          · omega
          · omega
        clear hT hF
        have hDE : RDk wE T FD p d := HD.out.turn (mod0 hbE) (fun _ h => h.elim) (fun _ _ h => h) t2 (fun b hb => t1 b (HD.out.fs b hb)) t7
        have hgW : W3.heap.size ≠ g := by omega
        have hLE : RLg wE T F g p (log0 n (nw + 1) gg gt) N := by
          refine ⟨⟨_, List.replicate N ([], (none, 0, 0)), hhE, (HOC.out.mono (Nat.zero_le _)).kept z2 fun r hr => ?_, by rw [List.length_replicate], fun j x hj => ?_, fun r hr => ?_⟩, t5, t4, t7⟩
          · cases hr
            exact hmE.block _ (by show W3.heap.size < wC.heap.size; omega) hgW
          · have hx := List.eq_of_mem_replicate (List.mem_of_getElem? hj)
            rw [hx]
            exact ⟨rfl, LSl.nil _, fun r hr => by cases hr⟩
          · cases hr
            exact ⟨hgW, t6⟩
        have hfin : ∀ w', RLg w' T F g p lo N → RDk w' T FD p d → Below w.heap.size w w' → ∃ g' F' S', Ending.returned (.tuple #[.pointer (some ⟨g, 0, none⟩), .int .i64 0]) = .returned (.tuple #[.pointer (some ⟨g', 0, none⟩), .int .i64 0]) ∧ RLg w' S' F' g' p lo (d.L.length - 2 - n) ∧ RDk w' S' FD p d ∧ Below w.heap.size w w' ∧ (∀ b, S b → S' b) ∧ (∀ b, S' b → S b ∨ w.heap.size ≤ b) ∧ ∀ b, F' b → w.heap.size ≤ b := fun w' a1 a2 a3 => ⟨g, F, T, rfl, by rw [HN.out]; exact a1, a2, a3, t1, t2, t3⟩
        have HFIN := Lib.hid hfin
        have T3 := Lib.hid t3
        have T4 := Lib.hid t4
        have hFD : ∀ b, FD b → ¬ F b := fun b h1 h2 => absurd (HD.out.lt b (HD.out.fs b h1)) (Nat.not_lt.2 (t3 b h2))
        have HFD := Lib.hid hFD
        have HFS := Lib.hid HD.out.fs
        have T1 := Lib.hid t1
        have T5 := Lib.hid t5
        have hN4 : N ≤ 4096 := by have := HN.out; omega
        have hND := HND.out
        first
          | have HR0 : Hid (ZAt w T FD F g p N n gt lo d (.int .u64 ((1 : Nat) : Int)) (.int .i64 ((0 : Nat) : Int)) wE) := Lib.hid ⟨log0 n (nw + 1) gg gt, 1, 0, rfl, rfl, (by first | decide | omega), rfl, rfl, Nat.le_refl _, Nat.le_add_right _ _, (by simp [Lg.free, log0]), hLE, hDE, hbE, HLL.out.symm⟩
          | have HR0 : Hid (ZAt w T FD F g p N n gt lo d (.int .u64 ((gf : Nat) : Int)) (.int .i64 ((0 : Nat) : Int)) wE) := Lib.hid ⟨log0 n (nw + 1) gg gt, gf, 0, rfl, rfl, (by first | decide | omega), rfl, rfl, Nat.le_refl _, Nat.le_add_right _ _, (by simp [Lg.free, log0]), hLE, hDE, hbE, HLL.out.symm⟩
        clear hhE hmE hbE t1 t2 t3 t4 t5 t6 t7 hDE hLE hfin hFD HLL HHC HOC HBC HMK z1 z2 z3 z4 z5 gW3 hgW
        go_wp2_with fail
        go_loopw [14, 15] (fun fv kv wi => ZAt w T FD F g p N n gt lo d fv kv wi) (fun _ kv _ => n + 1 - (intOf kv).toNat)
        case atStart => exact HR0.out
        case round =>
          obtain ⟨li, fl, k, rfl, rfl, hfl', hn, htl, hlo, hhi', hkf, hLi, hDi, hbi, hrep⟩ := hrel
          have hkn : k ≤ n := by omega
          have hdk : decide (k ≤ n) = true := decide_eq_true hkn
          have hdk2 : decide ((k : Int) ≤ (n : Int)) = true := decide_eq_true (by omega)
          have hki : (k : Int) ≤ 4096 := by omega
          have hrec := znext_any hLi hDi (by omega) (by omega) (by omega) (by omega) (by omega) fl hfl'
          have hok := recordB_ok hDi.ok (l := li) (by omega) (by omega) fl
          have hrl := recordB_len li d fl
          have hfe : li.free ≤ li.n := by unfold Lg.free; omega
          have hrun := record_run hDi.ok (l := li) (by omega) (by omega) fl
          have HLI := Lib.hid hLi
          have HDI := Lib.hid hDi
          have HBI := Lib.hid hbi
          have HREP := Lib.hid hrep
          have HNI := Lib.hid hn
          have HTL := Lib.hid htl
          have HKF := Lib.hid hkf
          have HOK := Lib.hid hok
          have HRUN := Lib.hid hrun
          have HRL := Lib.hid hrl
          have htt : li.tail ≤ li.next := by omega
          have hll : li.next ≤ li.tail + li.n := by omega
          have hts : li.tail < 2 ^ 41 := by omega
          have hlin : li.n ≤ 4096 := by omega
          clear hLi hDi hbi hrep hn htl hkf hok hrun HR0 hrl
          go_wp2_with fail
          refine hrec.mono ?_
          rintro e w2 ⟨hb2, v2, rfl, hP2⟩
          have hjn := yjoin_any w2 v2 (li.recordB d fl) hP2.rd (HRUN.out.imp id fun ⟨ep, h, _⟩ => ⟨ep, _, h⟩) (by have := HRL.out; omega)
          have HP2 := Lib.hid hP2
          have HB2 := Lib.hid hb2
          obtain ⟨a2, n2, c2, rfl⟩ : ∃ a n c, v2 = .slice a n c := by
            obtain ⟨xs, -, hO, -⟩ := hP2
            exact hO.shape
          clear hrec hb2 hP2
          go_wp2_with fail
          refine hjn.mono ?_
          rintro e w3 ⟨hb3, hR⟩
          have HB3 : Hid (Below wr.heap.size wr w3) := Lib.hid (HB2.out.trans (hb3.mono HB2.out.size))
          have HB23 := Lib.hid hb3
          clear hjn hb3
          cases hj : joinB (li.recordB d fl) with
          | none =>
            rw [hj] at hR
            unfold JoinR at hR
            simp only at hR
            subst hR
            have HF : Hid (lo = li) := Lib.hid (by rw [← HREP.out]; simp only [replayGo, hj])
            clear hj
            go_wp2
            go_ret2
            refine HFIN.out _ ?_ (HDI.out.below HB3.out) (HBI.out.trans (HB3.out.mono HBI.out.size))
            rw [HF.out]
            exact HLI.out.below HB3.out
          | some b =>
            rw [hj] at hR
            unfold JoinR at hR
            simp only at hR
            obtain ⟨v3, rfl, hO3⟩ := hR
            obtain ⟨a3, n3, c3, rfl⟩ := hO3.shape
            have hsl3 := hO3.sl el8.len
            have hble := joinB_le hj
            have hbb : ∀ x ∈ b, x < 256 := by
              rw [hble.1]
              exact recOf_lt fun q hq => ⟨Nat.lt_of_le_of_lt (HOK.out q hq).1.1 (by decide), Nat.lt_of_le_of_lt (HOK.out q hq).1.2.1 (by decide), (HOK.out q hq).2⟩
            have hdc := zof_any w3 (.slice a3 n3 c3) b hsl3 hbb hble.2 N (by omega)
            obtain ⟨hv, xs, hh3, hOx, hxN, -, -⟩ := (HLI.out.below HB3.out).ex
            obtain ⟨la3, lc3, rfl, -, -, -⟩ := hOx.sl elB.len
            rw [hxN] at hh3
            have c6 := cell_of (o := 6) hh3 rfl
            have HJ := Lib.hid hj
            clear hO3 hsl3 hj hble hbb hh3 hOx hxN
            go_wp2_with fail
            refine hdc.mono ?_
            rintro e w5 ⟨hb5, hR5⟩
            have HB5 : Hid (Below wr.heap.size wr w5) := Lib.hid (HB3.out.trans (hb5.mono HB3.out.size))
            have HB35 : Hid (Below w3.heap.size w3 w5) := Lib.hid hb5
            clear hb5 hdc c6
            have hhom : li.homes d = N := by
              unfold Lg.homes
              rw [HNI.out]
              exact HN.out
            cases hd : decB b N with
            | none =>
              rw [hd] at hR5
              obtain ⟨a5, n5, c5, rfl⟩ := hR5
              have HF : Hid (lo = li) := Lib.hid (by rw [← HREP.out]; simp only [replayGo, HJ.out, hhom, hd])
              clear hd
              go_wp2
              go_ret2
              refine HFIN.out _ ?_ (HDI.out.below HB5.out) (HBI.out.trans (HB5.out.mono HBI.out.size))
              rw [HF.out]
              exact HLI.out.below HB5.out
            | some ps =>
              rw [hd] at hR5
              obtain ⟨v5, rfl, hP5⟩ := hR5
              obtain ⟨a5, n5, c5, rfl⟩ : ∃ a n c, v5 = .slice a n c := by
                obtain ⟨xs, -, hO, -⟩ := hP5
                exact hO.shape
              have htr := decB_trans hd
              have hw34 : wr.heap.size ≤ w3.heap.size := HB3.out.size
              have hFlt : ∀ b, F b → b < wr.heap.size := fun b hb => HLI.out.lt b (T4.out b hb)
              have htk := ztake_any (HLI.out.below HB5.out) (.slice a5 n5 c5) ps (hP5.away fun b hb => Nat.lt_of_lt_of_le (hFlt b hb) hw34) htr hN4
              have HTK := Lib.hid htk
              have HD5 := Lib.hid hd
              have hne := joinB_ne HJ.out
              obtain ⟨q0, rr, hq0⟩ : ∃ q r, li.recordB d fl = q :: r := by
                cases hrr : li.recordB d fl with
                | nil => exact absurd hrr hne
                | cons q r => exact ⟨q, r, rfl⟩
              obtain ⟨xs2, hxs2, hO2, -⟩ := HP2.out
              have hsl2 := hO2.sl elPx.len
              obtain ⟨x0, hx0⟩ : ∃ x, xs2[0]? = some x := by
                cases xs2 with
                | nil => rw [hq0] at hxs2; cases hxs2
                | cons x _ => exact ⟨x, rfl⟩
              have hx0e : x0.1 = q0 := by
                have := congrArg (fun l => l[0]?) hxs2
                simp only [List.getElem?_map, hx0, hq0] at this
                exact Option.some.inj this
              obtain ⟨a7, c7, he7, hc71, hc72, hc73⟩ := hsl2
              have hn2 : n2 = (li.recordB d fl).length := by
                have h1 : n2 = xs2.length := (Value.slice.inj he7).2.1
                rw [h1, ← hxs2]; simp
              obtain ⟨b2, o2, hb2e, hb2l, hcells⟩ := hc73 (by have := (List.getElem?_eq_some_iff.1 hx0).1; omega)
              have ha2 : a2 = some ⟨b2, o2, none⟩ := by rw [← hb2e]; exact (Value.slice.inj he7).1
              have hb2lo := hO2.lo b2 (by rw [ha2]; rfl)
              have hce := hcells 0 x0 hx0 0 (by simp [enPc])
              obtain ⟨⟨pe, pt, pf, pl, pd⟩, sv0⟩ := x0
              have hce' : w2.cell? ⟨b2, o2 + 0 * 5 + 0, none⟩ = some (.int .u64 (pe : Nat)) := hce
              simp only [Nat.zero_mul, Nat.add_zero] at hce'
              have hw25 : Below w2.heap.size w2 w5 := HB23.out.trans (HB35.out.mono HB23.out.size)
              have hce5 := (hw25.cell (p := ⟨b2, o2, none⟩) hb2l).trans hce'
              have hpe : q0.ep = pe := by rw [← hx0e]
              have hstep := replay_step htt hq0 (by rw [← hq0]; exact HJ.out) (by rw [hhom]; exact HD5.out)
              rw [← hq0, hpe] at hstep
              have HST := Lib.hid (hstep.symm.trans HREP.out)
              have HCE5 := Lib.hid hce5
              have hpe63 : pe < 2 ^ 63 := by
                have := (HOK.out q0 (by rw [hq0]; simp)).1.1
                omega
              have hlenp : 0 < n2 := by rw [hn2, hq0]; simp
              have hn2f : n2 ≤ li.free := by rw [hn2]; exact HRL.out
              have HN2 := Lib.hid hn2
              subst ha2
              clear htr htk hd hne hq0 hxs2 hO2 hx0 hx0e he7 hc71 hc72 hc73 hn2 hb2e hcells hce hce' hw25 hce5 hpe hstep hP5
              go_wp2_with fail
              refine HTK.out.mono ?_
              rintro e w6 ⟨rfl, hL6, hm6⟩
              have hb6 : Below w.heap.size w w6 := (HBI.out.trans (HB5.out.mono HBI.out.size)).trans (hm6.below (HBI.out.trans (HB5.out.mono HBI.out.size)).size fun x hx e => absurd hx (Nat.not_lt.2 (T3.out x e)))
              have hD6 := (HDI.out.below HB5.out).turn hm6 T4.out HFD.out (fun _ h => .inl h) (fun b hb => T1.out b (HFS.out b hb)) (fun b hb => Nat.lt_of_lt_of_le ((HDI.out.below HB5.out).lt b hb) hm6.size)
              obtain ⟨hv6, xs6, hh6, -⟩ := hL6.ex
              have q5 := cell_of (o := 5) hh6 rfl
              have f5 := free_of (o := 5) hh6
              have hb2F : ¬ F b2 := fun e => by have := hFlt b2 e; omega
              have hmN : Mod (fun b => b = g) w6 (w6.setCell ⟨g, 5, none⟩ (.int .u64 ((li.next + n2 : Nat) : Int))) := (Mod.refl _ _).setCell _ _ fun _ => rfl
              have hN6 := hL6.nums (l' := { li with H := takeH li.H ps, next := li.next + n2 }) rfl hmN (fun hv hh => (heap_setCell_at (o := 5) (v := .int .u64 ((li.next + n2 : Nat) : Int)) hh).trans (by simp))
              have hgS : T g := T4.out g T5.out
              have hD7 := hD6.turn hmN (fun b hb => by rw [hb]; exact hgS) (fun b hb e => by rw [e] at hb; exact HFD.out g hb T5.out) (fun _ h => .inl h) (fun b hb => T1.out b (HFS.out b hb)) (fun b hb => Nat.lt_of_lt_of_le (hD6.lt b hb) hmN.size)
              have hb7 := hb6.trans (hmN.below hb6.size fun x hx e => by
                have := T3.out g T5.out
                rw [e] at hx
                omega)
              have hc6 := cell_mod (cell_mod HCE5.out hm6 hb2F) hmN (fun e => by have e : b2 = g := e; exact hb2F (e ▸ T5.out))
              rw [Int.natCast_add] at hc6 hN6 hD7 hb7
              have HN6 := Lib.hid hN6
              have HD7 := Lib.hid hD7
              have HB7 := Lib.hid hb7
              have hnx63 : ((li.next : Nat) : Int) < 4398046511104 := by omega
              have hn263 : ((n2 : Nat) : Int) ≤ 4096 := by omega
              have hn2p : (0 : Int) < ((n2 : Nat) : Int) := by omega
              clear hL6 hm6 hb6 hD6 hh6 hmN hN6 hD7 hb7 HTK hgS
              go_wp2
              go_roundw
              case rel => exact ⟨{ li with H := takeH li.H ps, next := li.next + n2 }, pe, k + 1, rfl, by go_num, hpe63, HNI.out, HTL.out, by show gt ≤ li.next + n2; omega, by have h1 := HNI.out; have h2 := HTL.out; have h3 : li.free = li.n - (li.next - li.tail) := rfl; show li.next + n2 ≤ gt + n; omega, by have h1 := HNI.out; have h2 := HTL.out; have h3 : li.free = li.n - (li.next - li.tail) := rfl; have h4 := HKF.out; show k + 1 + (li.n - (li.next + n2 - li.tail)) ≤ n; omega, HN6.out, HD7.out, HB7.out, by have := HST.out; rw [← HN2.out] at this; exact this⟩
              case measure => simp only [intOf]; omega)
end Go.Proofs.YtmakpbjknklpiaaGreat
