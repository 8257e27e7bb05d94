/- The document's Held: Before, put walked. -/
import Derived.Test.YthckjciblngaaaaSb
namespace Go.Proofs.Ythckjciblngaaaa
open Go.RowKit Go.Tn Go.Maps Go.Sort Go.Shelf

set_option maxHeartbeats 1000000 in
theorem before_any (w : World) (a b : Fi) : Calls Try.prog 69 #[.agg #[.int .i64 a.1, .int .i64 a.2], .agg #[.int .i64 b.1, .int .i64 b.2]] w fun e w' => e = .returned (.bool (ltOf cmpF a b)) ∧ Below w.heap.size w w' := by
  obtain ⟨i, g⟩ := a
  obtain ⟨i', g'⟩ := b
  obtain ⟨v, hv⟩ : ∃ v, ltOf cmpF (i, g) (i', g') = v := ⟨_, rfl⟩
  rw [hv]
  have h4 : (i < i' ∧ v = true) ∨ (¬ i < i' ∧ i ≠ i' ∧ v = false) ∨ (i = i' ∧ g < g' ∧ v = true) ∨ (i = i' ∧ ¬ g < g' ∧ v = false) := by
    rw [← hv]
    rw [ltF_iff, ltF_no]
    simp only
    omega
  clear hv
  have hb : Below w.heap.size w ((w.alloc (.cells #[.int .i64 i, .int .i64 g] 39)).alloc (.cells #[.int .i64 i', .int .i64 g'] 39)) := ((Below.refl _ _).alloc (Nat.le_refl _) _).alloc (by simp) _
  rcases h4 with ⟨h1, rfl⟩ | ⟨h1, h2, rfl⟩ | ⟨rfl, h1, rfl⟩ | ⟨rfl, h1, rfl⟩
  · go_enter Try.func69, Try.ntmps69
    go_wp2
    go_ret
    exact ⟨rfl, hb⟩
  · have t : (i == i') = false := by simpa using h2
    clear h2
    go_enter Try.func69, Try.ntmps69
    go_wp2
    go_ret
    exact ⟨rfl, hb⟩
  · go_enter Try.func69, Try.ntmps69
    go_wp2
    go_ret
    exact ⟨rfl, hb⟩
  · go_enter Try.func69, Try.ntmps69
    go_wp2
    go_ret
    exact ⟨rfl, hb⟩

theorem sizeRR : (Try.prog.info? 89).map (·.size) = some 5 := by kernel_rfl
section
variable {w : World} {xb xl : Nat} {ph se bo : Int} {lv : Value} {R : List RRow} {wv : Value} {W : List Fi} {tm : Int} {sv : Value} {T : List Int}
set_option maxRecDepth 20000 in
set_option maxHeartbeats 4000000 in
theorem rput_any (h : RAt w xb xl ph se bo lv R wv W tm sv T) (hn : R.length ≤ 900) (r : RRow) : Calls Try.prog 60 #[.pointer (some ⟨xb, 0, none⟩), .agg #[.int .i64 r.i, .int .i64 r.g, .int .i64 r.m, .int .u64 r.v, .bool r.c]] w
    fun e w' => e = .returned (.tuple #[]) ∧ (∃ lv' R', RAt w' xb xl ph se bo lv' R' wv W tm sv T ∧ R'.length ≤ R.length + 1 ∧ ∀ r, lv'.ownBlock = some r → w.heap.size ≤ r) ∧ Mod (fun x => x = xb) w w' := by
  obtain ⟨ri0, rg0, rm0, rv0, rc0⟩ := r
  obtain ⟨w1, hw1⟩ : ∃ w1, w.alloc (.cells #[.int .i64 ri0, .int .i64 rg0, .int .i64 rm0, .int .u64 rv0, .bool rc0] 89) = w1 := ⟨_, rfl⟩
  have hW : Below w.heap.size w w1 := by rw [← hw1]; exact (Below.refl _ _).alloc (Nat.le_refl _) _
  have hsz1 : w1.heap.size = w.heap.size + 1 := by rw [← hw1]; simp
  have hbox : Lies w1 w.heap.size 0 #[.int .i64 ri0, .int .i64 rg0, .int .i64 rm0, .int .u64 rv0, .bool rc0] := by rw [← hw1]; exact lies_of heap_alloc_at
  have h1 := h.below hW
  have hd := rdrop_any h1 (by omega) ri0 rg0
  have p0 : w1.cell? ⟨w.heap.size, 0, none⟩ = some (.int .i64 ri0) := hbox 0 (by simp)
  have p1 : w1.cell? ⟨w.heap.size, 1, none⟩ = some (.int .i64 rg0) := hbox 1 (by simp)
  have hxb := h.lt xb (.inl rfl)
  have hxl := h.lt xl (.inr (.inl rfl))
  have HB := Lib.hid hbox
  have H1 := Lib.hid hw1
  have HS := Lib.hid hsz1
  clear h h1 hbox hw1 hsz1
  go_enter Try.func60, Try.ntmps60
  go_upto_region 1 with (fail)
  rw [H1.out]
  go_wp2_with fail
  refine hd.mono ?_
  rintro e w2 ⟨rfl, ⟨lv2, R2, h2, hl2, ho2⟩, hm2⟩
  have hbx2 : Lies w2 w.heap.size 0 #[.int .i64 ri0, .int .i64 rg0, .int .i64 rm0, .int .u64 rv0, .bool rc0] := fun j hj => (World.cell?_of_block (a := ⟨w.heap.size, 0 + j, none⟩) (hm2.block w.heap.size (by have := HS.out; omega) (by omega))).trans (HB.out j hj)
  have hsl := h2.lst.sl elRR.len
  obtain ⟨ao, cap, rfl, hcl, hcm, _⟩ := h2.lst.sl elRR.len
  unfold maxLen at hcm
  have hlt2 : w.heap.size < w2.heap.size := World.block_lt_of_cell? w2 _ (hbx2 0 (by simp))
  have HH := Lib.hid h2
  have HBX := Lib.hid hbx2
  have HM2 := Lib.hid hm2
  clear h2 hd hm2 hbx2 p0 p1
  go_wp2
  go_loopw [5] (fun kv wr => ∃ k : Nat, k ≤ R2.length ∧ kv = .int .i64 k ∧ Below w2.heap.size w2 wr) (fun kv _ => R2.length - (intOf kv).toNat)
  case atStart => exact ⟨0, Nat.zero_le _, rfl, Below.refl _ _⟩
  case round =>
    obtain ⟨k, hk, rfl, hbr⟩ := hrel
    have HBR := Lib.hid hbr
    have HHR := Lib.hid (HH.out.below hbr)
    have hBr := HBX.out.below' hbr hlt2
    clear hbr
    by_cases hlt : k < R2.length
    · have hlt' : (k : Int) < (R2.length : Int) := by omega
      obtain ⟨b4, o4, cap4, hveq, hb4, hco⟩ := hsl.at_ (List.getElem?_eq_getElem hlt)
      obtain ⟨rfl, rfl⟩ : ao = some ⟨b4, o4, none⟩ ∧ cap = cap4 := by simpa using hveq
      have hl := hco.below' HBR.out hb4
      clear hco hveq
      generalize R2[k] = r at *
      obtain ⟨ri, rg, rm, rv, rc⟩ := r
      have hlF : Lies wr.drew b4 (o4 + k * 5) #[.int .i64 ri, .int .i64 rg] := fun j hj => by
        match j, hj with
        | 0, _ => exact hl 0 (by simp [enRR])
        | 1, _ => exact hl 1 (by simp [enRR])
      have hbF : Lies wr.drew w.heap.size 0 #[.int .i64 ri0, .int .i64 rg0] := fun j hj => by
        match j, hj with
        | 0, _ => exact hBr 0 (by simp)
        | 1, _ => exact hBr 1 (by simp)
      have hS : wr.drew.cell? ⟨xb, 3, none⟩ = some (.slice (some ⟨b4, o4, none⟩) R2.length cap) ∧ Lies wr.drew b4 (o4 + k * 5) #[.int .i64 ri, .int .i64 rg] ∧ Lies wr.drew w.heap.size 0 #[.int .i64 ri0, .int .i64 rg0] := ⟨HHR.out.c3, hlF, hbF⟩
      clear hl hlF hbF hBr
      go_upto_region 4 with (fail)
      refine wp_region_g (fun w' => w'.cell? ⟨xb, 3, none⟩ = some (.slice (some ⟨b4, o4, none⟩) R2.length cap) ∧ Lies w' b4 (o4 + k * 5) #[.int .i64 ri, .int .i64 rg] ∧ Lies w' w.heap.size 0 #[.int .i64 ri0, .int .i64 rg0]) [(0, 1), (1, 1), (2, 1), (3, 1), (4, 0), (5, 1), (6, 1), (7, 1), (8, 1), (9, 1), (10, 1), (11, 0), (12, 1), (13, 1), (14, 1), (15, 0), (16, 1), (17, 0), (18, 2), (19, 1)] (by kernel_rfl) (by kernel_rfl) (by intro d v c a w h; cases d <;> exact h) ?_
      iterate 4 (refine g_take rfl rfl (fun K hK => ?_); go_simp; refine hK _ ?_; clear hK K)
      refine g_read rfl rfl hS (fun w' h => exec_load1 ⟨⟨_, Try.underlying33, rfl⟩⟩ rfl h.1) ?_
      iterate 6 (refine g_take rfl rfl (fun K hK => ?_); go_simp; refine hK _ ?_; clear hK K)
      refine g_read rfl rfl hS (fun w' h => exec_load1 ⟨⟨_, Try.underlying33, rfl⟩⟩ rfl h.1) ?_
      iterate 3 (refine g_take rfl rfl (fun K hK => ?_); go_simp; refine hK _ ?_; clear hK K)
      refine g_read rfl rfl hS (fun w' h => exec_loadA (aggF _ _) rfl h.2.1) ?_
      iterate 1 (refine g_take rfl rfl (fun K hK => ?_); go_simp; refine hK _ ?_; clear hK K)
      refine g_read rfl rfl hS (fun w' h => exec_loadA (aggF _ _) rfl h.2.2) ?_
      refine g_show' rfl rfl (fun K hK => ?_)
      go_simp
      refine (before_any wr.drew (ri, rg) (ri0, rg0)).mono ?_
      rintro e w3 ⟨rfl, hb3⟩
      have hb3' : Below wr.heap.size wr w3 := (Below.refl wr.heap.size wr).drew.trans hb3
      have hS3 : w3.cell? ⟨xb, 3, none⟩ = some (.slice (some ⟨b4, o4, none⟩) R2.length cap) ∧ Lies w3 b4 (o4 + k * 5) #[.int .i64 ri, .int .i64 rg] ∧ Lies w3 w.heap.size 0 #[.int .i64 ri0, .int .i64 rg0] :=
        ⟨(HHR.out.below hb3').c3, hS.2.1.below' hb3 (World.block_lt_of_cell? wr.drew _ (hS.2.1 0 (by simp))), hS.2.2.below' hb3 (World.block_lt_of_cell? wr.drew _ (hS.2.2 0 (by simp)))⟩
      refine hK _ _ hS3 ?_
      clear hK K hS hS3
      have HB3 := Lib.hid (HBR.out.trans (hb3'.mono HBR.out.size))
      obtain ⟨t, ht⟩ : ∃ t, ltOf cmpF (ri, rg) (ri0, rg0) = t := ⟨_, rfl⟩
      rw [ht]
      clear ht hb3 hb3'
      iterate 1 (refine g_take rfl rfl (fun K hK => ?_); go_simp; refine hK _ ?_; clear hK K)
      refine g_nil ?_
      cases t
      · have hkc : k ≤ cap := by omega
        have hk0 : (0 : Int) ≤ (k : Int) := by omega
        have hkc' : (k : Int) ≤ (cap : Int) := by omega
        have h3 := HH.out.below HB3.out
        have hu1 := (h3.lst.sl elRR.len).take (i := k) hk
        have hnil : LOut enRR 5 89 w2.heap.size w3 (.slice none 0 0) ([] : List RRow) := LOut.nil HB3.out.size
        have c3 := h3.c3
        have HBX3 := Lib.hid (HBX.out.below' HB3.out hlt2)
        clear h3
        go_upto_region 7 with (first
          | ((with_reducible refine wpList_appendN elRR hnil hu1 (by simp; omega) ?_ ?_ ?_); rfl; rfl; (intro v5 w5 hO5 hg5 hl5); go_frame)
          | fail)
        have HB5 := Lib.hid (HB3.out.trans (((Below.refl _ w3).grown hg5 (Nat.le_refl _) (fun k e => by cases e)).mono HB3.out.size))
        rw [List.nil_append] at hO5
        have hol : (R2.take k).length ≤ 1000 := by rw [List.length_take]; omega
        have HBX5 := Lib.hid (HBX.out.below' HB5.out hlt2)
        clear hu1 hnil hg5 hl5 c3
        go_upto_region 8 with (first
          | ((with_reducible refine wpList_loadA (aggRR ⟨ri0, rg0, rm0, rv0, rc0⟩) HBX5.out ?_ ?_); rfl; go_frame)
          | ((with_reducible refine wpList_append1 elRR hO5 ⟨ri0, rg0, rm0, rv0, rc0⟩ hol ?_ ?_ ?_ ?_); rfl; rfl; rfl; (intro v6 w6 hO6 hb6); go_frame)
          | fail)
        have HB6 := Lib.hid (HB5.out.trans hb6)
        have h6 := HH.out.below HB6.out
        have c3 := h6.c3
        obtain ⟨ad, had⟩ : ∃ ad, (if cap = k then (some ⟨b4, o4, none⟩ : Option Addr) else ((some ⟨b4, o4, none⟩ : Option Addr) : Option Addr).map (·.add (k * 5))) = ad := ⟨_, rfl⟩
        obtain ⟨ln, hln⟩ : ∃ ln, R2.length - k = ln := ⟨_, rfl⟩
        obtain ⟨cn, hcn⟩ : ∃ cn, cap - k = cn := ⟨_, rfl⟩
        have hu2 := (h6.lst.sl elRR.len).drop2 (i := k) hk had hln hcn
        have HAD := Lib.hid had
        have HLN := Lib.hid hln
        have HCN := Lib.hid hcn
        clear had hln hcn
        have hxs : (R2.take k ++ [(⟨ri0, rg0, rm0, rv0, rc0⟩ : RRow)]).length + (R2.drop k).length ≤ 100000 := by rw [List.length_append, List.length_take, List.length_drop]; simp; omega
        have hlen7 : ((R2.take k ++ [(⟨ri0, rg0, rm0, rv0, rc0⟩ : RRow)]) ++ R2.drop k).length ≤ R.length + 1 := by rw [List.length_append, List.length_append, List.length_take, List.length_drop]; simp; omega
        have H6 := Lib.hid h6
        have HL7 := Lib.hid hlen7
        have hxb2 : xb < w6.heap.size := h6.lt xb (.inl rfl)
        clear hO5 hol hb6 h6 hlen7
        obtain ⟨v7, w7, hrun7, hO7, hg7, hl7⟩ := run_appendM elRR (ty := 33) hO6 hu2 hxs
        obtain ⟨va, vn, vc, rfl⟩ := LOut.shape hO7
        have hv6 : ∀ r, v6.ownBlock = some r → w2.heap.size ≤ r := hO6.lo
        have HB7 := Lib.hid (HB6.out.trans ((Below.refl _ w6).grown hg7 HB6.out.size hv6))
        have h7 := HH.out.below HB7.out
        have d3 := h7.c3
        have f3 := h7.free (o := 3)
        have hlo7 : ∀ r, (Value.slice va vn vc).ownBlock = some r → w2.heap.size ≤ r := hO7.lo
        have H7 := Lib.hid h7
        have HO7 := Lib.hid hO7
        have HLO7 := Lib.hid hlo7
        clear hg7 hl7 hO7 hv6 h7 hlo7 hO6 hxs
        go_wp2_with (first
          | ((with_reducible refine wpList_exec rfl (exec_sliceLo2 Try.underlying33 sizeRR hk HAD.out HLN.out HCN.out ?_ ?_) ?_); rfl; rfl; go_frame)
          | ((with_reducible refine wpList_exec rfl (exec_append_of hrun7 ?_ ?_) ?_); rfl; rfl; go_frame)
          | fail)
        all_goals
          go_end0
          have hm8 : Mod (fun x => x = xb) w7 (w7.setCell ⟨xb, 3, none⟩ (.slice va vn vc)) := (Mod.refl _ _).cell _ _
          have hx2 := HH.out.lt xb (.inl rfl)
          have hl2' := HH.out.lt xl (.inr (.inl rfl))
          have hsw := hW.size
          have hs12 := HM2.out.size
          refine ⟨rfl, ⟨_, _, H7.out.turn (heap_setCell_at H7.out.blk) hm8 ((HO7.out.mono (Nat.zero_le _)).kept hm8.size fun r hr => hm8.block r (HO7.out.lt hr) (fun e => by have := HLO7.out r hr; omega)) (H7.out.keepW hm8) (fun r hr => by have := HLO7.out r hr; exact ⟨by omega, by omega⟩) H7.out.ow, HL7.out, fun r hr => by have := HLO7.out r hr; omega⟩, ?_⟩
          exact ((((Mod.of_below hW).mono (T := fun x => x = xb) fun x hx hh => absurd hx (Nat.not_lt.2 hh)).trans HM2.out (fun _ h => h) (fun _ _ h => h)).trans ((Mod.of_below HB7.out).mono (T := fun x => x = xb) fun x hx hh => absurd hx (Nat.not_lt.2 hh)) (fun _ h => h) (fun _ _ h => h)).trans hm8 (fun _ h => h) (fun _ _ h => h)
      · go_wp2
        go_roundw
        case rel => exact ⟨k + 1, by omega, by go_num, HB3.out⟩
        case measure => simp [intOf]; omega
    · have hlt' : ¬ (k : Int) < (R2.length : Int) := by omega
      have hS : wr.drew.cell? ⟨xb, 3, none⟩ = some (.slice ao R2.length cap) := HHR.out.c3
      clear hBr
      go_upto_region 4 with (fail)
      refine wp_region_g (fun w' => w'.cell? ⟨xb, 3, none⟩ = some (.slice ao R2.length cap)) [(0, 1), (1, 1), (2, 1), (3, 1), (4, 0), (5, 1), (6, 1), (7, 1), (8, 1), (9, 1), (10, 1), (11, 0), (12, 1), (13, 1), (14, 1), (15, 0), (16, 1), (17, 0), (18, 2), (19, 1)] (by kernel_rfl) (by kernel_rfl) (by intro d v c a w h; cases d <;> exact h) ?_
      iterate 4 (refine g_take rfl rfl (fun K hK => ?_); go_simp; refine hK _ ?_; clear hK K)
      refine g_read rfl rfl hS (fun w' h => exec_load1 ⟨⟨_, Try.underlying33, rfl⟩⟩ rfl h) ?_
      iterate 3 (refine g_take rfl rfl (fun K hK => ?_); go_simp; refine hK _ ?_; clear hK K)
      iterate 11 (refine g_offK rfl rfl (fun _ => hS) (fun K hK => ?_); go_simp; refine hK _ ?_; clear hK K)
      iterate 1 (refine g_take rfl rfl (fun K hK => ?_); go_simp; refine hK _ ?_; clear hK K)
      refine g_nil ?_
      have HB3 := Lib.hid HBR.out.drew
      clear hS
      generalize wr.drew = w3 at *
      have hkc : k ≤ cap := by omega
      have hk0 : (0 : Int) ≤ (k : Int) := by omega
      have hkc' : (k : Int) ≤ (cap : Int) := by omega
      have h3 := HH.out.below HB3.out
      have hu1 := (h3.lst.sl elRR.len).take (i := k) hk
      have hnil : LOut enRR 5 89 w2.heap.size w3 (.slice none 0 0) ([] : List RRow) := LOut.nil HB3.out.size
      have c3 := h3.c3
      have HBX3 := Lib.hid (HBX.out.below' HB3.out hlt2)
      clear h3
      go_upto_region 7 with (first
        | ((with_reducible refine wpList_appendN elRR hnil hu1 (by simp; omega) ?_ ?_ ?_); rfl; rfl; (intro v5 w5 hO5 hg5 hl5); go_frame)
        | fail)
      have HB5 := Lib.hid (HB3.out.trans (((Below.refl _ w3).grown hg5 (Nat.le_refl _) (fun k e => by cases e)).mono HB3.out.size))
      rw [List.nil_append] at hO5
      have hol : (R2.take k).length ≤ 1000 := by rw [List.length_take]; omega
      have HBX5 := Lib.hid (HBX.out.below' HB5.out hlt2)
      clear hu1 hnil hg5 hl5 c3
      go_upto_region 8 with (first
        | ((with_reducible refine wpList_loadA (aggRR ⟨ri0, rg0, rm0, rv0, rc0⟩) HBX5.out ?_ ?_); rfl; go_frame)
        | ((with_reducible refine wpList_append1 elRR hO5 ⟨ri0, rg0, rm0, rv0, rc0⟩ hol ?_ ?_ ?_ ?_); rfl; rfl; rfl; (intro v6 w6 hO6 hb6); go_frame)
        | fail)
      have HB6 := Lib.hid (HB5.out.trans hb6)
      have h6 := HH.out.below HB6.out
      have c3 := h6.c3
      obtain ⟨ad, had⟩ : ∃ ad, (if cap = k then ao else (ao : Option Addr).map (·.add (k * 5))) = ad := ⟨_, rfl⟩
      obtain ⟨ln, hln⟩ : ∃ ln, R2.length - k = ln := ⟨_, rfl⟩
      obtain ⟨cn, hcn⟩ : ∃ cn, cap - k = cn := ⟨_, rfl⟩
      have hu2 := (h6.lst.sl elRR.len).drop2 (i := k) hk had hln hcn
      have HAD := Lib.hid had
      have HLN := Lib.hid hln
      have HCN := Lib.hid hcn
      clear had hln hcn
      have hxs : (R2.take k ++ [(⟨ri0, rg0, rm0, rv0, rc0⟩ : RRow)]).length + (R2.drop k).length ≤ 100000 := by rw [List.length_append, List.length_take, List.length_drop]; simp; omega
      have hlen7 : ((R2.take k ++ [(⟨ri0, rg0, rm0, rv0, rc0⟩ : RRow)]) ++ R2.drop k).length ≤ R.length + 1 := by rw [List.length_append, List.length_append, List.length_take, List.length_drop]; simp; omega
      have H6 := Lib.hid h6
      have HL7 := Lib.hid hlen7
      have hxb2 : xb < w6.heap.size := h6.lt xb (.inl rfl)
      clear hO5 hol hb6 h6 hlen7
      obtain ⟨v7, w7, hrun7, hO7, hg7, hl7⟩ := run_appendM elRR (ty := 33) hO6 hu2 hxs
      obtain ⟨va, vn, vc, rfl⟩ := LOut.shape hO7
      have hv6 : ∀ r, v6.ownBlock = some r → w2.heap.size ≤ r := hO6.lo
      have HB7 := Lib.hid (HB6.out.trans ((Below.refl _ w6).grown hg7 HB6.out.size hv6))
      have h7 := HH.out.below HB7.out
      have d3 := h7.c3
      have f3 := h7.free (o := 3)
      have hlo7 : ∀ r, (Value.slice va vn vc).ownBlock = some r → w2.heap.size ≤ r := hO7.lo
      have H7 := Lib.hid h7
      have HO7 := Lib.hid hO7
      have HLO7 := Lib.hid hlo7
      clear hg7 hl7 hO7 hv6 h7 hlo7 hO6 hxs
      go_wp2_with (first
        | ((with_reducible refine wpList_exec rfl (exec_sliceLo2 Try.underlying33 sizeRR hk HAD.out HLN.out HCN.out ?_ ?_) ?_); rfl; rfl; go_frame)
        | ((with_reducible refine wpList_exec rfl (exec_append_of hrun7 ?_ ?_) ?_); rfl; rfl; go_frame)
        | fail)
      all_goals
        go_end0
        have hm8 : Mod (fun x => x = xb) w7 (w7.setCell ⟨xb, 3, none⟩ (.slice va vn vc)) := (Mod.refl _ _).cell _ _
        have hx2 := HH.out.lt xb (.inl rfl)
        have hl2' := HH.out.lt xl (.inr (.inl rfl))
        have hsw := hW.size
        have hs12 := HM2.out.size
        refine ⟨rfl, ⟨_, _, H7.out.turn (heap_setCell_at H7.out.blk) hm8 ((HO7.out.mono (Nat.zero_le _)).kept hm8.size fun r hr => hm8.block r (HO7.out.lt hr) (fun e => by have := HLO7.out r hr; omega)) (H7.out.keepW hm8) (fun r hr => by have := HLO7.out r hr; exact ⟨by omega, by omega⟩) H7.out.ow, HL7.out, fun r hr => by have := HLO7.out r hr; omega⟩, ?_⟩
        exact ((((Mod.of_below hW).mono (T := fun x => x = xb) fun x hx hh => absurd hx (Nat.not_lt.2 hh)).trans HM2.out (fun _ h => h) (fun _ _ h => h)).trans ((Mod.of_below HB7.out).mono (T := fun x => x = xb) fun x hx hh => absurd hx (Nat.not_lt.2 hh)) (fun _ h => h) (fun _ _ h => h)).trans hm8 (fun _ h => h) (fun _ _ h => h)
end
end Go.Proofs.Ythckjciblngaaaa
