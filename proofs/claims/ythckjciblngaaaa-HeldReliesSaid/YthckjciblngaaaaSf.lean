/- The document's Held: Grant, Claim, Settled: that they come back, and leave it whole. -/
import Derived.Test.YthckjciblngaaaaSe
namespace Go.Proofs.Ythckjciblngaaaa
open Go.RowKit Go.Tn Go.Maps Go.Sort Go.Shelf

section
variable {w : World} {xb xl : Nat} {ph se bo : Int} {lv : Value} {R : List RRow} {wv : Value} {W : List Fi} {tm : Int} {sv : Value} {T : List Int}
set_option maxHeartbeats 1000000 in
theorem rGrant_any (h : RAt w xb xl ph se bo lv R wv W tm sv T) (hn : R.length ≤ 900) (i g md v : Int) {n : Nat} (h1 : R.length ≤ n) (h2 : W.length ≤ n) (h3 : T.length ≤ n) : Calls Try.prog 38 #[.pointer (some ⟨xb, 0, none⟩), .agg #[.int .i64 i, .int .i64 g], .int .i64 md, .int .u64 v] w
    fun e w' => SomeInt e ∧ RDone w xb (n + 1) (rfoot xb xl lv wv sv) w' := by
  obtain ⟨w1, hw1⟩ : ∃ w1, w.alloc (.cells #[.int .i64 i, .int .i64 g] 39) = w1 := ⟨_, rfl⟩
  have hW : Below w.heap.size w w1 := by rw [← hw1]; exact (Below.refl _ _).alloc (Nat.le_refl _) _
  have hA1 := h.below hW
  have hat := rAt_any hA1 (by omega) i g
  have c0 := hA1.c0
  obtain ⟨p0, p1⟩ := box_cells hw1
  have hlt1 : w.heap.size < w1.heap.size := World.block_lt_of_cell? w1 _ p0
  have H1 := Lib.hid hw1
  have HH := Lib.hid h
  have HA1 := Lib.hid hA1
  have HB := Lib.hid hW
  obtain ⟨ao, cap, rfl, hcl, hcm, _⟩ := h.lst.sl elRR.len
  unfold maxLen at hcm
  have hend : ∀ w2, Below w.heap.size w w2 → RDone w xb (n + 1) (rfoot xb xl (.slice ao R.length cap) wv sv) w2 := fun w2 hb => RAt.doneSet (w1 := w2) hb (HH.out.below hb) (Mod.refl _ _) (fun r hr => .inl hr) (by omega) (by omega) (by omega)
  have HEND := Lib.hid hend
  clear h hw1 hW hA1 hend
  by_cases hp : ph = 2
  · subst hp
    by_cases hlo : md < 1
    · go_enter Try.func38, Try.ntmps38
      go_upto_region 1 with (fail)
      rw [H1.out]
      go_wp2
      go_ret
      exact ⟨⟨_, rfl⟩, HEND.out _ HB.out⟩
    · by_cases hhi : 2 < md
      · have hlo' : 1 ≤ md := by omega
        clear hlo
        go_enter Try.func38, Try.ntmps38
        go_upto_region 1 with (fail)
        rw [H1.out]
        go_wp2
        go_ret
        exact ⟨⟨_, rfl⟩, HEND.out _ HB.out⟩
      · have hlo' : 1 ≤ md := by omega
        have hhi' : md ≤ 2 := by omega
        clear hlo hhi
        go_enter Try.func38, Try.ntmps38
        go_upto_region 1 with (fail)
        rw [H1.out]
        go_wp2_with fail
        refine hat.mono ?_
        rintro e w2 ⟨⟨r, rfl, hr⟩, hb2⟩
        have hB2 := HB.out.trans (hb2.mono HB.out.size)
        have hA := HH.out.below hB2
        have q0 : w2.cell? ⟨w.heap.size, 0, none⟩ = some (.int .i64 i) := (hb2.cell (p := ⟨w.heap.size, 0, none⟩) hlt1).trans p0
        have q1 : w2.cell? ⟨w.heap.size, 1, none⟩ = some (.int .i64 g) := (hb2.cell (p := ⟨w.heap.size, 1, none⟩) hlt1).trans p1
        have c3 := hA.c3
        have hput : ∀ md', Calls Try.prog 60 #[.pointer (some ⟨xb, 0, none⟩), .agg #[.int .i64 i, .int .i64 g, .int .i64 md', .int .u64 v, .bool false]] w2 fun e w' => e = .returned (.tuple #[]) ∧ RDone w xb (n + 1) (rfoot xb xl (.slice ao R.length cap) wv sv) w' := fun md' => by
          refine (rput_any hA hn ⟨i, g, md', v, false⟩).mono ?_
          rintro e w3 ⟨rfl, ⟨lv3, R3, h3', hl3, ho3⟩, hm3⟩
          exact ⟨rfl, RAt.doneSet hB2 h3' (mX hm3) (fun r hr => .inr (Nat.le_trans hB2.size (ho3 r hr))) (by omega) (by omega) (by omega)⟩
        have HP := Lib.hid hput
        have HA := Lib.hid hA
        clear hb2 hB2 hat p0 p1 c0 hput hA
        rcases hr with rfl | ⟨k, rfl, hk⟩
        · clear c3
          go_wp2_with fail
          refine (HP.out md).mono ?_
          rintro e w3 ⟨rfl, hd⟩
          have HD := Lib.hid hd
          clear hd q0 q1
          go_wp2
          go_ret
          exact ⟨⟨_, rfl⟩, HD.out⟩
        · have hk' : (k : Int) < (R.length : Int) := by omega
          have hk0 : (0 : Int) ≤ (k : Int) := by omega
          obtain ⟨b4, o4, cap4, hveq, hb4, hco⟩ := (HA.out.lst.sl elRR.len).at_ (List.getElem?_eq_getElem hk)
          obtain ⟨rfl, rfl⟩ : ao = some ⟨b4, o4, none⟩ ∧ cap = cap4 := by simpa using hveq
          obtain ⟨⟨ri, rg, rm, rv, rc⟩, hr⟩ : ∃ r, R[k] = r := ⟨_, rfl⟩
          rw [hr] at hco
          have q2 : w2.cell? ⟨b4, o4 + k * 5 + 2, none⟩ = some (.int .i64 rm) := hco 2 (by simp [enRR])
          clear hveq hco hr
          by_cases hgt : md < rm
          · go_wp2_with fail
            refine (HP.out rm).mono ?_
            rintro e w3 ⟨rfl, hd⟩
            have HD := Lib.hid hd
            clear hd q0 q1 q2 c3
            go_wp2
            go_ret
            exact ⟨⟨_, rfl⟩, HD.out⟩
          · go_wp2_with fail
            refine (HP.out md).mono ?_
            rintro e w3 ⟨rfl, hd⟩
            have HD := Lib.hid hd
            clear hd q0 q1 q2 c3
            go_wp2
            go_ret
            exact ⟨⟨_, rfl⟩, HD.out⟩
  · have t1 : (ph != 2) = true := by simpa using hp
    clear hp
    go_enter Try.func38, Try.ntmps38
    go_upto_region 1 with (fail)
    rw [H1.out]
    go_wp2
    go_ret
    exact ⟨⟨_, rfl⟩, HEND.out _ HB.out⟩

set_option maxHeartbeats 2000000 in
theorem rClaim_any (h : RAt w xb xl ph se bo lv R wv W tm sv T) (hn : R.length ≤ 1000) : Calls Try.prog 59 #[.pointer (some ⟨xb, 0, none⟩)] w
    fun e w' => (∃ (a b c : Int) (d : Bool), e = .returned (.tuple #[.agg #[.int .i64 a, .int .i64 b], .int .i64 c, .bool d])) ∧ Below w.heap.size w w' := by
  obtain ⟨w1, hw1⟩ : ∃ w1, w.alloc (.cells #[.int .i64 0, .int .i64 0] 39) = w1 := ⟨_, rfl⟩
  have hW : Below w.heap.size w w1 := by rw [← hw1]; exact (Below.refl _ _).alloc (Nat.le_refl _) _
  have hsz1 : w1.heap.size = w.heap.size + 1 := by rw [← hw1]; simp
  have hrb : w1.heap[w.heap.size]? = some (.cells #[.int .i64 0, .int .i64 0] 39 (0, 0)) := by rw [← hw1]; exact heap_alloc_at
  have h1 := h.below hW
  have hsl := h1.lst.sl elRR.len
  obtain ⟨ao, cap, rfl, hcl, hcm, _⟩ := h1.lst.sl elRR.len
  unfold maxLen at hcm
  have H1 := Lib.hid hw1
  have HH := Lib.hid h1
  have HRB := Lib.hid hrb
  have HW := Lib.hid hW
  have HSZ := Lib.hid hsz1
  clear h h1 hw1 hrb hW hsz1
  go_enter Try.func59, Try.ntmps59
  go_upto_region 1 with (fail)
  rw [H1.out]
  go_wp2
  go_loopw [5] (fun kv wr => ∃ k : Nat, k ≤ R.length ∧ kv = .int .i64 k ∧ Below w1.heap.size w1 wr) (fun kv _ => R.length - (intOf kv).toNat)
  case atStart => exact ⟨0, Nat.zero_le _, rfl, Below.refl _ _⟩
  case round =>
    obtain ⟨k, hk, rfl, hbr⟩ := hrel
    have hr := HH.out.below hbr
    have c3 := hr.c3
    have c0 := hr.c0
    have HHR := Lib.hid hr
    have r := (hbr.block _ (by have := HSZ.out; omega : w.heap.size < w1.heap.size)).trans HRB.out
    have r0 := cell_of (o := 0) r rfl
    have r1 := cell_of (o := 1) r rfl
    have g0 := free_of (o := 0) r
    have g1 := free_of (o := 1) r
    have HBR := Lib.hid hbr
    have hend : Below w.heap.size w ((wr.setCell ⟨w.heap.size, 0, none⟩ (.int .i64 0)).setCell ⟨w.heap.size, 1, none⟩ (.int .i64 0)) := ((HW.out.trans (hbr.mono HW.out.size)).setCell (Nat.le_refl _) _).setCell (Nat.le_refl _) _
    have HEND := Lib.hid hend
    have hcase : k = R.length ∨ (k < R.length ∧ ph ≠ 1) ∨ (k < R.length ∧ ph = 1) := by omega
    clear hr hbr r hend
    rcases hcase with rfl | ⟨hlt, hp⟩ | ⟨hlt, rfl⟩
    · go_wp2
      exact bodyPost_ret (v := .tuple #[.agg #[.int .i64 0, .int .i64 0], .int .i64 0, .bool false]) (by simp [results, Try.results59, go_sem, r0, r1]) rfl ⟨⟨_, _, _, _, rfl⟩, HEND.out⟩
    · have hlt' : (k : Int) < (R.length : Int) := by omega
      have t1 : (ph == 1) = false := by simpa using hp
      clear hp
      go_wp2
      exact bodyPost_ret (v := .tuple #[.agg #[.int .i64 0, .int .i64 0], .int .i64 0, .bool false]) (by simp [results, Try.results59, go_sem, r0, r1]) rfl ⟨⟨_, _, _, _, rfl⟩, HEND.out⟩
    · have hlt' : (k : Int) < (R.length : Int) := by omega
      obtain ⟨b4, o4, cap4, hveq, hb4, hco⟩ := (HHR.out.lst.sl elRR.len).at_ (List.getElem?_eq_getElem hlt)
      obtain ⟨rfl, rfl⟩ : ao = some ⟨b4, o4, none⟩ ∧ cap = cap4 := by simpa using hveq
      obtain ⟨⟨ri, rg, rm, rv, rc⟩, hr⟩ : ∃ r, R[k] = r := ⟨_, rfl⟩
      rw [hr] at hco
      have q4 : wr.cell? ⟨b4, o4 + k * 5 + 4, none⟩ = some (.bool rc) := hco 4 (by simp [enRR])
      have hlF : Lies wr.drew b4 (o4 + k * 5) #[.int .i64 ri, .int .i64 rg] := fun j hj => by
        match j, hj with
        | 0, _ => exact hco 0 (by simp [enRR])
        | 1, _ => exact hco 1 (by simp [enRR])
      have q2 : wr.drew.cell? ⟨b4, o4 + k * 5 + 2, none⟩ = some (.int .i64 rm) := hco 2 (by simp [enRR])
      have hS : wr.drew.cell? ⟨xb, 3, none⟩ = some (.slice (some ⟨b4, o4, none⟩) R.length cap) ∧ Lies wr.drew b4 (o4 + k * 5) #[.int .i64 ri, .int .i64 rg] ∧ wr.drew.cell? ⟨b4, o4 + k * 5 + 2, none⟩ = some (.int .i64 rm) := ⟨c3, hlF, q2⟩
      have HS := Lib.hid hS
      clear hveq hco hr hlF q2 hS
      cases rc
      · go_upto_region 5 with (fail)
        have hS := HS.out
        have hmS : Mod (fun x => x = w.heap.size) wr.drew ((wr.drew.setCell ⟨w.heap.size, 0, none⟩ (.int .i64 ri)).setCell ⟨w.heap.size, 1, none⟩ (.int .i64 rg)) := ((Mod.refl _ _).cell _ _).cell _ _
        have hxlt : xb < w1.heap.size := HH.out.lt xb (.inl rfl)
        have hxne : xb ≠ w.heap.size := fun e => by
          have h5 := HRB.out
          rw [← e, HH.out.blk] at h5
          cases h5
        have hbne : b4 ≠ w.heap.size := fun e => by
          obtain ⟨cl, hcl⟩ := LOut.cells HH.out.lst (r := b4) rfl
          rw [e, HRB.out] at hcl
          cases hcl
        have k1 := hmS.block xb (World.block_lt_of_cell? wr.drew _ hS.1) (fun e => hxne e)
        have k2 := hmS.block b4 (World.block_lt_of_cell? wr.drew _ hS.2.2) (fun e => hbne e)
        have hS2 : ((wr.drew.setCell ⟨w.heap.size, 0, none⟩ (.int .i64 ri)).setCell ⟨w.heap.size, 1, none⟩ (.int .i64 rg)).cell? ⟨xb, 3, none⟩ = some (.slice (some ⟨b4, o4, none⟩) R.length cap) ∧ Lies ((wr.drew.setCell ⟨w.heap.size, 0, none⟩ (.int .i64 ri)).setCell ⟨w.heap.size, 1, none⟩ (.int .i64 rg)) b4 (o4 + k * 5) #[.int .i64 ri, .int .i64 rg] ∧ ((wr.drew.setCell ⟨w.heap.size, 0, none⟩ (.int .i64 ri)).setCell ⟨w.heap.size, 1, none⟩ (.int .i64 rg)).cell? ⟨b4, o4 + k * 5 + 2, none⟩ = some (.int .i64 rm) :=
          ⟨(World.cell?_of_block (a := ⟨xb, 3, none⟩) k1).trans hS.1, fun j hj => (World.cell?_of_block (a := ⟨b4, o4 + k * 5 + j, none⟩) k2).trans (hS.2.1 j hj), (World.cell?_of_block (a := ⟨b4, o4 + k * 5 + 2, none⟩) k2).trans hS.2.2⟩
        have HS2 := Lib.hid hS2
        clear hmS hxne hbne k1 k2 hS2 c3 c0 q4
        refine wp_region_x (fun w' => w'.cell? ⟨xb, 3, none⟩ = some (.slice (some ⟨b4, o4, none⟩) R.length cap) ∧ Lies w' b4 (o4 + k * 5) #[.int .i64 ri, .int .i64 rg] ∧ w'.cell? ⟨b4, o4 + k * 5 + 2, none⟩ = some (.int .i64 rm)) [(0, 1), (1, 1), (2, 1), (3, 0), (4, 1), (5, 1), (6, 1), (7, 0), (8, 1), (9, 1), (10, 1), (11, 0), (12, 1), (13, 1), (14, 1), (15, 0), (16, 2), (17, 1), (18, 1)] (by kernel_rfl) (by kernel_rfl) (by intro d v c a w h; cases d <;> exact h) ?_
        iterate 3 (refine x_take rfl (fun K hK => ?_); go_simp; refine hK _ ?_; clear hK K)
        refine x_read rfl hS (fun w' h => exec_load1 ⟨⟨_, Try.underlying33, rfl⟩⟩ rfl h.1) ?_
        iterate 3 (refine x_take rfl (fun K hK => ?_); go_simp; refine hK _ ?_; clear hK K)
        refine x_read rfl hS (fun w' h => exec_loadA (aggF _ _) rfl h.2.1) ?_
        iterate 3 (refine x_take rfl (fun K hK => ?_); go_simp; refine hK _ ?_; clear hK K)
        refine x_read rfl hS (fun w' h => exec_load1 ⟨⟨_, Try.underlying33, rfl⟩⟩ rfl h.1) ?_
        iterate 3 (refine x_take rfl (fun K hK => ?_); go_simp; refine hK _ ?_; clear hK K)
        refine x_read rfl hS (fun w' h => exec_load1 scalarInt rfl h.2.2) ?_
        refine x_show' rfl (fun K hK => ?_)
        go_simp
        refine hK _ _ HS2.out ?_
        clear hK K hS
        iterate 2 (refine x_take rfl (fun K hK => ?_); go_simp; refine hK _ ?_; clear hK K)
        refine x_nil ?_
        go_wp2
        exact bodyPost_ret (v := .tuple #[.agg #[.int .i64 ri, .int .i64 rg], .int .i64 rm, .bool true]) (by simp [results, Try.results59, go_sem, r0, r1]) rfl ⟨⟨_, _, _, _, rfl⟩, ((((HW.out.trans (HBR.out.mono HW.out.size))).drew.setCell (Nat.le_refl _) _).setCell (Nat.le_refl _) _)⟩
      · clear c3 c0 r0 r1 g0 g1
        have c3 := HHR.out.c3
        have c0 := HHR.out.c0
        go_wp2
        go_roundw
        case rel => exact ⟨k + 1, by omega, by go_num, HBR.out⟩
        case measure => simp [intOf]; omega
theorem rSettled_any (h : RAt w xb xl ph se bo lv R wv W tm sv T) (hn : R.length ≤ 1000) {n : Nat} (h1 : R.length ≤ n) (h2 : W.length ≤ n) (h3 : T.length ≤ n) : Calls Try.prog 37 #[.pointer (some ⟨xb, 0, none⟩)] w
    fun e w' => SomeInt e ∧ RDone w xb n (rfoot xb xl lv wv sv) w' := by
  have hc := rClaim_any h hn
  have HH := Lib.hid h
  have hend : ∀ w2, Below w.heap.size w w2 → RDone w xb n (rfoot xb xl lv wv sv) w2 := fun w2 hb => RAt.doneSet (w1 := w2) hb (HH.out.below hb) (Mod.refl _ _) (fun r hr => .inl hr) h1 h2 h3
  have HEND := Lib.hid hend
  clear h hend
  go_enter Try.func37, Try.ntmps37
  go_wp2_with fail
  refine hc.mono ?_
  rintro e w2 ⟨⟨a, b, c, d, rfl⟩, hb⟩
  have hb3 : Below w.heap.size w (w2.alloc (.cells #[.int .i64 a, .int .i64 b] 39)) := hb.alloc hb.size _
  have hA := HH.out.below hb3
  have c0 := hA.c0
  have g0 := hA.free (o := 0)
  have HA := Lib.hid hA
  have HB3 := Lib.hid hb3
  clear hA hb hb3 hc
  by_cases hp : ph = 1
  · subst hp
    cases d
    · go_wp2
      go_ret
      have hm : Mod (fun x => x = xb) (w2.alloc (.cells #[.int .i64 a, .int .i64 b] 39)) ((w2.alloc (.cells #[.int .i64 a, .int .i64 b] 39)).setCell ⟨xb, 0, none⟩ (.int .i64 2)) := (Mod.refl _ _).cell _ _
      exact ⟨⟨_, rfl⟩, RAt.doneSet HB3.out (HA.out.turn (heap_setCell_at HA.out.blk) hm (HA.out.keepL hm) (HA.out.keepW hm) HA.out.ol HA.out.ow) (mX hm) (fun r hr => .inl hr) h1 h2 h3⟩
    · go_wp2
      go_ret
      exact ⟨⟨_, rfl⟩, HEND.out _ HB3.out⟩
  · have t1 : (ph != 1) = true := by simpa using hp
    clear hp
    go_wp2
    go_ret
    exact ⟨⟨_, rfl⟩, HEND.out _ HB3.out⟩
end
end Go.Proofs.Ythckjciblngaaaa
