/- Held: Claim, Settled walked. -/
import Derived.Test.YthckjciblngaaaaHe
namespace Go.Proofs.Ythckjciblngaaaa
open Go.RowKit Go.Tn Go.Maps Go.Sort Go.Shelf

/-- What is to be taken up next. -/
def claimR (G : Gs) (FL : List Fi) : Option Fi := FL.find? fun f => !((G f).getD ⟨0, 0, false⟩).cl
def noClaim : Value := .tuple #[.agg #[.int .i64 0, .int .i64 0], .int .i64 0, .bool false]
def claimV (G : Gs) (FL : List Fi) : Value := match claimR G FL with
  | some f => .tuple #[.agg #[.int .i64 f.1, .int .i64 f.2], .int .i64 ((G f).getD ⟨0, 0, false⟩).mode, .bool true]
  | none => noClaim
theorem claimR_some {G : Gs} {FL : List Fi} {k : Nat} (hk : k < FL.length) (hall : ∀ f ∈ FL.take k, ((G f).getD ⟨0, 0, false⟩).cl = true) (hf : ((G FL[k]).getD ⟨0, 0, false⟩).cl = false) : claimR G FL = some FL[k] := by
  unfold claimR
  have hsp : FL = FL.take k ++ FL[k] :: FL.drop (k + 1) := by rw [← List.drop_eq_getElem_cons hk, List.take_append_drop]
  conv => lhs; rw [hsp]
  rw [List.find?_append]
  have h1 : (FL.take k).find? (fun f => !((G f).getD ⟨0, 0, false⟩).cl) = none := List.find?_eq_none.2 fun f hm => by rw [hall f hm]; decide
  rw [h1, List.find?_cons, hf]
  rfl
theorem claimR_none {G : Gs} {FL : List Fi} (hall : ∀ f ∈ FL, ((G f).getD ⟨0, 0, false⟩).cl = true) : claimR G FL = none := by
  unfold claimR
  exact List.find?_eq_none.2 fun f hm => by rw [hall f hm]; decide
section
variable {w : World} {b m lb : Nat} {ph se bo : Int} {L : Ents Fi} {clk : Nat} {G : Gs} {wv : Value} {W : List Fi} {t u : Nat}
theorem claim_out (h : HAt w b m lb ph se bo L clk G wv W t u) (hp : ph ≠ 1) : Calls Try.prog 8 #[.pointer (some ⟨b, 0, none⟩)] w fun e w' => e = .returned noClaim ∧ Below w.heap.size w w' := by
  have hb : Below w.heap.size w (w.alloc (.cells #[.int .i64 0, .int .i64 0] 39)) := (Below.refl _ _).alloc (Nat.le_refl _) _
  have hm := must_no (h.below hb) hp
  clear hp
  go_enter Try.func8, Try.ntmps8
  go_wp2_with (go_at_call 31; refine hm.mono ?_; rintro e w ⟨rfl, rfl⟩)
  exact bodyPost_ret (v := noClaim) (by simp [results, Try.results8, go_sem, noClaim]) rfl ⟨rfl, hb⟩
set_option maxHeartbeats 1000000 in
theorem claim_any (h : HAt w b m lb 1 se bo L clk G wv W t u) (hl : L.length ≤ 1000) (FL : List Fi) (hFL : Srt FL ∧ ∀ f, f ∈ FL ↔ G f ≠ none) : Calls Try.prog 8 #[.pointer (some ⟨b, 0, none⟩)] w fun e w' => e = .returned (claimV G FL) ∧ Below w.heap.size w w' := by
  obtain ⟨w1, hw1⟩ : ∃ w1, w.alloc (.cells #[.int .i64 0, .int .i64 0] 39) = w1 := ⟨_, rfl⟩
  have hb : Below w.heap.size w w1 := by rw [← hw1]; exact (Below.refl _ _).alloc (Nat.le_refl _) _
  have hs1 : w1.heap.size = w.heap.size + 1 := by rw [← hw1]; simp
  have hrb : w1.heap[w.heap.size]? = some (.cells #[.int .i64 0, .int .i64 0] 39 (0, 0)) := by rw [← hw1]; exact heap_alloc_at
  have h1 := h.below hb
  have hm := must_yes h1
  have hall := all_any h1 hl
  obtain ⟨cv, hcv⟩ : ∃ cv, claimV G FL = cv := ⟨_, rfl⟩
  rw [hcv]
  have HCV := Lib.hid hcv
  have HW1 := Lib.hid hw1
  have HRB := Lib.hid hrb
  have HFL := Lib.hid hFL
  have H1 := Lib.hid h1
  have HB := Lib.hid hb
  have HALL := Lib.hid hall
  clear hcv hw1 hrb hFL h1 hb hall h
  go_enter Try.func8, Try.ntmps8
  go_upto_region 1 with (fail)
  rw [HW1.out]
  go_wp2_with (go_at_call 31; refine hm.mono ?_; rintro e w' ⟨rfl, hw⟩; obtain rfl := hw.symm; clear hw)
  refine HALL.out.mono ?_
  rintro e w2 ⟨v, FL', rfl, ⟨hs', hm', hln⟩, hR, hb2⟩
  obtain rfl := srt_uniq hs' HFL.out.1 fun f => (hm' f).trans (HFL.out.2 f).symm
  have h2 := H1.out.below hb2
  have c4 := h2.c4
  obtain ⟨ao, cap, rfl, hcl, hcm, hx⟩ := hR.sl
  unfold maxLen at hcm
  have hfl : FL'.length ≤ 1000 := by omega
  have H2 := Lib.hid h2
  have HR := Lib.hid hR
  have HB2 := Lib.hid hb2
  have hrb2 : w2.heap[w.heap.size]? = some (.cells #[.int .i64 0, .int .i64 0] 39 (0, 0)) := (hb2.block _ (by omega)).trans HRB.out
  have HRB2 := Lib.hid hrb2
  clear h2 hR hs' hm' hln hb2 hrb2 HALL c4
  go_wp2
  go_loopw [15] (fun kv wr => ∃ k : Nat, k ≤ FL'.length ∧ kv = .int .i64 k ∧ (∀ f ∈ FL'.take k, ((G f).getD ⟨0, 0, false⟩).cl = true) ∧ Below w2.heap.size w2 wr) (fun kv _ => FL'.length - (intOf kv).toNat)
  case atStart => exact ⟨0, Nat.zero_le _, rfl, fun f hf => by simp at hf, Below.refl _ _⟩
  case round =>
    obtain ⟨k, hk, rfl, hcl2, hbr⟩ := hrel
    have hsz2 := HB2.out.size
    have HC := Lib.hid hcl2
    clear hcl2
    by_cases hlt : k < FL'.length
    · have hlt' : (k : Int) < (FL'.length : Int) := by omega
      obtain ⟨bb, off, rfl, hbb, hcs⟩ := hx (by omega)
      have hcell : Lies wr bb (off + k * 2) (enF FL'[k]).toArray := (hcs k _ (List.getElem?_eq_getElem hlt)).below' hbr hbb
      have hsome := claimR_some (G := G) hlt HC.out
      have hmore : ((G FL'[k]).getD ⟨0, 0, false⟩).cl = true → ∀ f ∈ FL'.take (k + 1), ((G f).getD ⟨0, 0, false⟩).cl = true := fun ht f hf => by
        rw [List.take_succ_eq_append_getElem hlt, List.mem_append, List.mem_singleton] at hf
        rcases hf with hf | rfl
        · exact HC.out f hf
        · exact ht
      have HS := Lib.hid hsome
      have HM := Lib.hid hmore
      clear hcs hx hsome hmore
      generalize FL'[k] = f at *
      obtain ⟨fi, fg⟩ := f
      have hr := H2.out.below hbr
      have hg := hr.getO (fi, fg)
      obtain ⟨⟨md, vr, cl⟩, ho⟩ : ∃ o, (G (fi, fg)).getD ⟨0, 0, false⟩ = o := ⟨_, rfl⟩
      rw [ho] at hg
      have HO := Lib.hid ho
      have HG := Lib.hid hg
      have HCL := Lib.hid hcell
      have HBR := Lib.hid hbr
      have HR2 := Lib.hid hr
      have hsr := hbr.size
      have q0 : wr.cell? ⟨bb, off + k * 2, none⟩ = some (.int .i64 fi) := hcell 0 (by simp [enF])
      have q1 : wr.cell? ⟨bb, off + k * 2 + 1, none⟩ = some (.int .i64 fg) := hcell 1 (by simp [enF])
      clear ho hg hcell hbr hr
      go_upto_region 6 with (first
        | ((with_reducible refine wpList_loadA (aggF fi fg) HCL.out ?_ ?_); rfl; go_frame)
        | fail)
      have hS : MRd b m wr.heap.size fi fg L clk (wr.alloc (.cells #[.int .i64 fi, .int .i64 fg] 39)).drew :=
        MRd.drew ⟨(HR2.out.below ((Below.refl _ _).alloc (Nat.le_refl _) _)).c4, heap_alloc_of HR2.out.map, box_file⟩
      clear q0 q1
      refine wp_region_x (MRd b m wr.heap.size fi fg L clk) [(0, 1), (1, 1), (2, 1), (3, 0), (4, 0), (5, 0), (6, 2), (7, 3)] (by kernel_rfl) (by kernel_rfl) (by intro d v c a w h; cases d <;> exact h) ?_
      iterate 3 (refine x_take rfl (fun K hK => ?_); go_simp; refine hK _ ?_; clear hK K)
      refine x_read rfl hS (fun w' h => exec_load1 scalarMap rfl h.c4) ?_
      refine x_read rfl hS (fun w' h => exec_loadA (aggF _ _) rfl h.box) ?_
      refine x_read rfl hS (fun w' h => exec_lookup keyF Try.underlying52 zeroO h.map rfl (fi, fg) rfl) ?_
      rw [HG.out]
      unfold enO
      refine x_show' rfl (fun K hK => ?_)
      go_simp
      refine hK _ _ (hS.alloc _) ?_
      clear hK K
      refine x_exec' rfl (fun K hK => ?_)
      go_simp
      refine hK _ _ ?_
      clear hK K
      refine x_nil ?_
      have hbA : Below wr.heap.size wr ((wr.alloc (.cells #[.int .i64 fi, .int .i64 fg] 39)).drew.alloc (.cells #[.int .i64 md, .int .u64 vr, .bool cl] 68)) := ((Below.refl _ _).alloc (Nat.le_refl _) _).drew.alloc (by simp) _
      have HBA := Lib.hid hbA
      clear hbA hS
      cases cl
      · have hb2 : Below wr.heap.size wr (((wr.alloc (.cells #[.int .i64 fi, .int .i64 fg] 39)).alloc (.cells #[.int .i64 md, .int .u64 vr, .bool false] 68)).drew) := (((Below.refl _ _).alloc (Nat.le_refl _) _).alloc (by simp) _).drew
        have hbF : Lies (((wr.alloc (.cells #[.int .i64 fi, .int .i64 fg] 39)).alloc (.cells #[.int .i64 md, .int .u64 vr, .bool false] 68)).drew) wr.heap.size 0 #[.int .i64 fi, .int .i64 fg] :=
          Lies.below' (box_file (w := wr) (T := 39)) (((Below.refl _ (wr.alloc (.cells #[.int .i64 fi, .int .i64 fg] 39))).alloc (Nat.le_refl _) (.cells #[.int .i64 md, .int .u64 vr, .bool false] 68)).drew) (by simp)
        have hbO : (((wr.alloc (.cells #[.int .i64 fi, .int .i64 fg] 39)).alloc (.cells #[.int .i64 md, .int .u64 vr, .bool false] 68)).drew).cell? ⟨wr.heap.size + 1, 0, none⟩ = some (.int .i64 md) := by
          have h0 : (((wr.alloc (.cells #[.int .i64 fi, .int .i64 fg] 39)).alloc (.cells #[.int .i64 md, .int .u64 vr, .bool false] 68)).drew).cell? ⟨(wr.alloc (.cells #[.int .i64 fi, .int .i64 fg] 39)).heap.size, 0, none⟩ = some (.int .i64 md) := cell_of (w := (wr.alloc (.cells #[.int .i64 fi, .int .i64 fg] 39)).alloc (.cells #[.int .i64 md, .int .u64 vr, .bool false] 68)) heap_alloc_at rfl
          rwa [show (wr.alloc (.cells #[.int .i64 fi, .int .i64 fg] 39)).heap.size = wr.heap.size + 1 by simp] at h0
        have hbr2 : Below w2.heap.size w2 (((wr.alloc (.cells #[.int .i64 fi, .int .i64 fg] 39)).alloc (.cells #[.int .i64 md, .int .u64 vr, .bool false] 68)).drew) := HBR.out.trans (hb2.mono hsr)
        go_upto_region 8 with (fail)
        generalize hw7 : (((wr.alloc (.cells #[.int .i64 fi, .int .i64 fg] 39)).alloc (.cells #[.int .i64 md, .int .u64 vr, .bool false] 68)).drew) = w7 at *
        clear hw7
        have r := (hbr2.block _ (lt_of_block HRB2.out)).trans HRB2.out
        have r0 := cell_of (o := 0) r rfl
        have r1 := cell_of (o := 1) r rfl
        have g0 := free_of (o := 0) r
        have g1 := free_of (o := 1) r
        have hSS : Lies w7.drew wr.heap.size 0 #[.int .i64 fi, .int .i64 fg] ∧ w7.drew.cell? ⟨wr.heap.size + 1, 0, none⟩ = some (.int .i64 md) := ⟨hbF, hbO⟩
        have HBR2 := Lib.hid hbr2
        have HV : cv = .tuple #[.agg #[.int .i64 fi, .int .i64 fg], .int .i64 md, .bool true] := by
          rw [← HCV.out]
          unfold claimV
          rw [HS.out (by rw [HO.out])]
          show Value.tuple #[_, .int .i64 ((G (fi, fg)).getD ⟨0, 0, false⟩).mode, _] = _
          rw [HO.out]
        have HVV := Lib.hid HV
        clear hb2 hbF hbO hbr2 r HV
        refine wp_region_x (fun w' => Lies w' wr.heap.size 0 #[.int .i64 fi, .int .i64 fg] ∧ w'.cell? ⟨wr.heap.size + 1, 0, none⟩ = some (.int .i64 md)) [(0, 0), (1, 1), (2, 0), (3, 2), (4, 1), (5, 1)] (by kernel_rfl) (by kernel_rfl) (by intro d v c a w h; cases d <;> exact h) ?_
        refine x_read rfl hSS (fun w' h => exec_loadA (aggF _ _) rfl h.1) ?_
        iterate 1 (refine x_take rfl (fun K hK => ?_); go_simp; refine hK _ ?_; clear hK K)
        refine x_read rfl hSS (fun w' h => exec_load1 scalarInt rfl h.2) ?_
        have hmS : Mod (fun x => x = w.heap.size) w7.drew ((w7.drew.setCell ⟨w.heap.size, 0, none⟩ (.int .i64 fi)).setCell ⟨w.heap.size, 1, none⟩ (.int .i64 fg)) := ((Mod.refl _ _).cell _ _).cell _ _
        have hlt7 : wr.heap.size < w7.drew.heap.size := World.block_lt_of_cell? w7.drew _ (hSS.1 0 (by simp))
        have hlt8 : wr.heap.size + 1 < w7.drew.heap.size := World.block_lt_of_cell? w7.drew _ hSS.2
        have hm1' := hmS.block wr.heap.size hlt7 (by omega)
        have hm2' := hmS.block (wr.heap.size + 1) hlt8 (by omega)
        have hSS2 : Lies ((w7.drew.setCell ⟨w.heap.size, 0, none⟩ (.int .i64 fi)).setCell ⟨w.heap.size, 1, none⟩ (.int .i64 fg)) wr.heap.size 0 #[.int .i64 fi, .int .i64 fg] ∧ ((w7.drew.setCell ⟨w.heap.size, 0, none⟩ (.int .i64 fi)).setCell ⟨w.heap.size, 1, none⟩ (.int .i64 fg)).cell? ⟨wr.heap.size + 1, 0, none⟩ = some (.int .i64 md) :=
          ⟨fun j hj => (World.cell?_of_block (a := ⟨wr.heap.size, 0 + j, none⟩) hm1').trans (hSS.1 j hj), (World.cell?_of_block (a := ⟨wr.heap.size + 1, 0, none⟩) hm2').trans hSS.2⟩
        have HS2 := Lib.hid hSS2
        clear hSS2 hmS hm1' hm2' hlt7 hlt8
        refine x_show' rfl (fun K hK => ?_)
        go_simp
        refine hK _ _ HS2.out ?_
        clear hK K hSS
        iterate 2 (refine x_take rfl (fun K hK => ?_); go_simp; refine hK _ ?_; clear hK K)
        refine x_nil ?_
        go_wp2
        exact bodyPost_ret (v := .tuple #[.agg #[.int .i64 fi, .int .i64 fg], .int .i64 md, .bool true]) (by simp [results, Try.results8, go_sem, r0, r1]) rfl ⟨by rw [HVV.out], ((((HB.out.trans (HB2.out.mono HB.out.size)).trans (HBR2.out.mono (Nat.le_trans HB.out.size hsz2))).drew.setCell (Nat.le_refl _) _).setCell (Nat.le_refl _) _)⟩
      · go_wp2
        go_roundw
        case rel => exact ⟨k + 1, by omega, by go_num, HM.out (by rw [HO.out]), HBR.out.trans (HBA.out.mono hsr)⟩
        case measure => simp [intOf]; omega
    · obtain rfl : k = FL'.length := by omega
      have hnone := claimR_none (G := G) (FL := FL') (fun f hf => HC.out f (by rw [List.take_of_length_le (Nat.le_refl _)]; exact hf))
      have HN := Lib.hid hnone
      have HBR := Lib.hid hbr
      have r := (hbr.block _ (lt_of_block HRB2.out)).trans HRB2.out
      have r0 := cell_of (o := 0) r rfl
      have r1 := cell_of (o := 1) r rfl
      have g0 := free_of (o := 0) r
      have g1 := free_of (o := 1) r
      have HVV : Hid (cv = noClaim) := Lib.hid (by rw [← HCV.out]; unfold claimV; rw [HN.out])
      clear hnone hbr r
      go_wp2
      exact bodyPost_ret (v := noClaim) (by simp [results, Try.results8, go_sem, r0, r1, noClaim]) rfl ⟨by rw [HVV.out], ((((HB.out.trans (HB2.out.mono HB.out.size)).trans (HBR.out.mono (Nat.le_trans HB.out.size hsz2))).setCell (Nat.le_refl _) _).setCell (Nat.le_refl _) _)⟩
/-! ### Settled -/
theorem settled_no (h : HAt w b m lb ph se bo L clk G wv W t u) (hp : ph ≠ 1) : Calls Try.prog 23 #[.pointer (some ⟨b, 0, none⟩)] w fun e w' => e = .returned (.int .i64 2) ∧ w' = w := by
  have hm := must_no h hp
  clear hp
  go_enter Try.func23, Try.ntmps23
  go_wp2_with (go_at_call 31; refine hm.mono ?_; rintro e w ⟨rfl, rfl⟩)
  go_ret
  exact ⟨rfl, rfl⟩
theorem settled_more (h : HAt w b m lb 1 se bo L clk G wv W t u) (hl : L.length ≤ 1000) (FL : List Fi) (hFL : Srt FL ∧ ∀ f, f ∈ FL ↔ G f ≠ none) (hm : claimR G FL ≠ none) : Calls Try.prog 23 #[.pointer (some ⟨b, 0, none⟩)] w fun e w' => e = .returned (.int .i64 2) ∧ Below w.heap.size w w' := by
  have hmy := must_yes h
  have hc := claim_any h hl FL hFL
  obtain ⟨f, hf⟩ := Option.ne_none_iff_exists'.1 hm
  unfold claimV at hc
  rw [hf] at hc
  clear hm hf hFL
  go_enter Try.func23, Try.ntmps23
  go_wp2_with (first
    | (go_at_call 31; refine hmy.mono ?_; rintro e w ⟨rfl, rfl⟩)
    | fail)
  refine hc.mono ?_
  rintro e w2 ⟨rfl, hb⟩
  go_wp2
  go_ret
  exact ⟨rfl, hb.alloc hb.size _⟩
theorem settled_yes (h : HAt w b m lb 1 se bo L clk G wv W t u) (hl : L.length ≤ 1000) (FL : List Fi) (hFL : Srt FL ∧ ∀ f, f ∈ FL ↔ G f ≠ none) (hm : claimR G FL = none) : Calls Try.prog 23 #[.pointer (some ⟨b, 0, none⟩)] w
    fun e w' => e = .returned (.int .i64 0) ∧ HAt w' b m lb 2 se bo L clk G wv W t u ∧ Mod (fun x => x = b) w w' := by
  have hmy := must_yes h
  have hc := claim_any h hl FL hFL
  unfold claimV at hc
  rw [hm] at hc
  unfold noClaim at hc
  have HH := Lib.hid h
  clear hm hFL h
  go_enter Try.func23, Try.ntmps23
  go_wp2_with (first
    | (go_at_call 31; refine hmy.mono ?_; rintro e w ⟨rfl, rfl⟩)
    | fail)
  refine hc.mono ?_
  rintro e w2 ⟨rfl, hb0⟩
  have hb : Below w.heap.size w (w2.alloc (.cells #[.int .i64 0, .int .i64 0] 39)) := hb0.alloc hb0.size _
  have h2 := HH.out.below hb
  have c1 := h2.c1
  have f1 := h2.free (o := 1)
  have H2 := Lib.hid h2
  clear h2 hc
  go_wp2
  go_ret
  have hmod : Mod (fun x => x = b) (w2.alloc (.cells #[.int .i64 0, .int .i64 0] 39)) ((w2.alloc (.cells #[.int .i64 0, .int .i64 0] 39)).setCell ⟨b, 1, none⟩ (.int .i64 2)) := (Mod.refl _ _).cell _ _
  exact ⟨rfl, H2.out.same (heap_setCell_at H2.out.blk) hmod, ((Mod.of_below hb).mono (T := fun x => x = b) fun x hx hh => absurd hx (Nat.not_lt.2 hh)).trans hmod (fun _ h => h) (fun _ _ h => h)⟩
end
end Go.Proofs.Ythckjciblngaaaa
