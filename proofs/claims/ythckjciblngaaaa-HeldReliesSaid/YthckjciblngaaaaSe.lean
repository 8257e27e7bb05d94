/- The document's Held: Update, Claimed, Grant, Claim, Settled: that they come back, and leave it whole. -/
import Derived.Test.YthckjciblngaaaaSd
namespace Go.Proofs.Ythckjciblngaaaa
open Go.RowKit Go.Tn Go.Maps Go.Sort Go.Shelf

section
variable {w : World} {xb xl : Nat} {ph se bo : Int} {lv : Value} {R : List RRow} {wv : Value} {W : List Fi} {tm : Int} {sv : Value} {T : List Int}
theorem box_cells {w w1 : World} {i g : Int} (hw1 : w.alloc (.cells #[.int .i64 i, .int .i64 g] 39) = w1) : w1.cell? ⟨w.heap.size, 0, none⟩ = some (.int .i64 i) ∧ w1.cell? ⟨w.heap.size, 1, none⟩ = some (.int .i64 g) := by
  rw [← hw1]; exact ⟨cell_of heap_alloc_at rfl, cell_of heap_alloc_at rfl⟩
theorem RAt.doneSet {w1 w2 : World} {lv' : Value} {R' : List RRow} {n : Nat} (hB : Below w.heap.size w w1) (h' : RAt w2 xb xl ph se bo lv' R' wv W tm sv T) (hm : Mod (rfoot xb xl lv wv sv) w1 w2) (hl : ∀ r, lv'.ownBlock = some r → lv.ownBlock = some r ∨ w.heap.size ≤ r) (h1 : R'.length ≤ n) (h2 : W.length ≤ n) (h3 : T.length ≤ n) : RDone w xb n (rfoot xb xl lv wv sv) w2 :=
  h'.done (mT (mB hB) hm) (fun r hr => by
    rcases hl r hr with e | e
    · exact fL e
    · exact .inr e) (fun r hr => fW hr) (fun r hr => fS hr) h1 h2 h3

set_option maxHeartbeats 1000000 in
theorem rUpdate_any (h : RAt w xb xl ph se bo lv R wv W tm sv T) (hn : R.length ≤ 1000) (i g v : Int) {n : Nat} (h1 : R.length ≤ n) (h2 : W.length ≤ n) (h3 : T.length ≤ n) : Calls Try.prog 40 #[.pointer (some ⟨xb, 0, none⟩), .agg #[.int .i64 i, .int .i64 g], .int .u64 v] w
    fun e w' => SomeInt e ∧ RDone w xb n (rfoot xb xl lv wv sv) w' := by
  obtain ⟨w1, hw1⟩ : ∃ w1, w.alloc (.cells #[.int .i64 i, .int .i64 g] 39) = w1 := ⟨_, rfl⟩
  have hW : Below w.heap.size w w1 := by rw [← hw1]; exact (Below.refl _ _).alloc (Nat.le_refl _) _
  have hat := rAt_any (h.below hW) hn i g
  obtain ⟨p0, p1⟩ := box_cells hw1
  have H1 := Lib.hid hw1
  have HH := Lib.hid h
  have HB := Lib.hid hW
  obtain ⟨ao, cap, rfl, hcl, hcm, _⟩ := h.lst.sl elRR.len
  unfold maxLen at hcm
  clear h hw1 hW
  go_enter Try.func40, Try.ntmps40
  go_upto_region 1 with (fail)
  rw [H1.out]
  go_wp2_with fail
  refine hat.mono ?_
  rintro e w2 ⟨⟨r, rfl, hr⟩, hb2⟩
  have hB2 := HB.out.trans (hb2.mono HB.out.size)
  have HB2 := Lib.hid hB2
  have HA := Lib.hid (HH.out.below hB2)
  clear hb2 hB2 hat p0 p1
  rcases hr with rfl | ⟨k, rfl, hk⟩
  · go_wp2
    go_ret
    exact ⟨⟨_, rfl⟩, RAt.doneSet (w1 := w2) HB2.out HA.out (Mod.refl _ _) (fun r hr => .inl hr) h1 h2 h3⟩
  · have hk' : (k : Int) < (R.length : Int) := by omega
    have hk0 : (0 : Int) ≤ (k : Int) := by omega
    have c3 := HA.out.c3
    obtain ⟨b4, o4, cap4, hveq, hb4, hco⟩ := (HA.out.lst.sl elRR.len).at_ (List.getElem?_eq_getElem hk)
    obtain ⟨rfl, rfl⟩ : ao = some ⟨b4, o4, none⟩ ∧ cap = cap4 := by simpa using hveq
    have hget : R[k]? = some R[k] := List.getElem?_eq_getElem hk
    obtain ⟨⟨ri, rg, rm, rv, rc⟩, hr⟩ : ∃ r, R[k] = r := ⟨_, rfl⟩
    rw [hr] at hco hget
    have hset := HA.out.setRow (j := 3) (y := ⟨ri, rg, rm, v, rc⟩) (u := .int .u64 v) hget (by decide) rfl
    have q3 : w2.cell? ⟨b4, o4 + k * 5 + 3, none⟩ = some (.int .u64 rv) := hco 3 (by simp [enRR])
    have f3 := HA.out.lst.frozen (o4 + k * 5 + 3)
    have HSET := Lib.hid hset
    clear hveq hco hget hr hset
    go_wp2
    go_ret
    exact ⟨⟨_, rfl⟩, RAt.doneSet HB2.out HSET.out.1 HSET.out.2 (fun r hr => .inl hr) (by rw [List.length_set]; exact h1) h2 h3⟩

set_option maxHeartbeats 1000000 in
theorem rClaimed_any (h : RAt w xb xl ph se bo lv R wv W tm sv T) (hn : R.length ≤ 1000) (i g v : Int) (is : Bool) {n : Nat} (h1 : R.length ≤ n) (h2 : W.length ≤ n) (h3 : T.length ≤ n) : Calls Try.prog 36 #[.pointer (some ⟨xb, 0, none⟩), .agg #[.int .i64 i, .int .i64 g], .int .u64 v, .bool is] w
    fun e w' => SomeInt e ∧ RDone w xb n (rfoot xb xl lv wv sv) w' := by
  obtain ⟨w1, hw1⟩ : ∃ w1, w.alloc (.cells #[.int .i64 i, .int .i64 g] 39) = w1 := ⟨_, rfl⟩
  have hW : Below w.heap.size w w1 := by rw [← hw1]; exact (Below.refl _ _).alloc (Nat.le_refl _) _
  have hA1 := h.below hW
  have hat := rAt_any hA1 hn i g
  have c0 := hA1.c0
  obtain ⟨p0, p1⟩ := box_cells hw1
  have hlt1 : w.heap.size < w1.heap.size := World.block_lt_of_cell? w1 _ p0
  have H1 := Lib.hid hw1
  have HH := Lib.hid h
  have HA1 := Lib.hid hA1
  have HB := Lib.hid hW
  obtain ⟨ao, cap, rfl, hcl, hcm, _⟩ := h.lst.sl elRR.len
  unfold maxLen at hcm
  clear h hw1 hW hA1
  by_cases hp : ph = 1
  · subst hp
    go_enter Try.func36, Try.ntmps36
    go_upto_region 1 with (fail)
    rw [H1.out]
    go_wp2_with fail
    refine hat.mono ?_
    rintro e w2 ⟨⟨r, rfl, hr⟩, hb2⟩
    have hB2 := HB.out.trans (hb2.mono HB.out.size)
    have HB2 := Lib.hid hB2
    have HA := Lib.hid (HH.out.below hB2)
    have p0' : w2.cell? ⟨w.heap.size, 0, none⟩ = some (.int .i64 i) := (hb2.cell (p := ⟨w.heap.size, 0, none⟩) hlt1).trans p0
    have p1' : w2.cell? ⟨w.heap.size, 1, none⟩ = some (.int .i64 g) := (hb2.cell (p := ⟨w.heap.size, 1, none⟩) hlt1).trans p1
    clear hb2 hB2 hat p0 p1 c0
    rcases hr with rfl | ⟨k, rfl, hk⟩
    · go_wp2
      go_ret
      exact ⟨⟨_, rfl⟩, RAt.doneSet (w1 := w2) HB2.out HA.out (Mod.refl _ _) (fun r hr => .inl hr) h1 h2 h3⟩
    · have hk' : (k : Int) < (R.length : Int) := by omega
      have hk0 : (0 : Int) ≤ (k : Int) := by omega
      cases is
      · have hd := rdrop_any HA.out hn i g
        go_wp2_with fail
        refine hd.mono ?_
        rintro e w3 ⟨rfl, ⟨lv3, R3, h3', hl3, ho3⟩, hm3⟩
        have H3 := Lib.hid h3'
        have HM3 := Lib.hid hm3
        have HO3 := Lib.hid ho3
        clear hd h3' hm3 ho3 p0' p1'
        go_wp2
        go_ret
        exact ⟨⟨_, rfl⟩, RAt.doneSet HB2.out H3.out (mX HM3.out) (fun r hr => .inr (Nat.le_trans HB2.out.size (HO3.out r hr))) (by omega) h2 h3⟩
      · have c3 := HA.out.c3
        obtain ⟨b4, o4, cap4, hveq, hb4, hco⟩ := (HA.out.lst.sl elRR.len).at_ (List.getElem?_eq_getElem hk)
        obtain ⟨rfl, rfl⟩ : ao = some ⟨b4, o4, none⟩ ∧ cap = cap4 := by simpa using hveq
        have hget : R[k]? = some R[k] := List.getElem?_eq_getElem hk
        obtain ⟨⟨ri, rg, rm, rv, rc⟩, hr⟩ : ∃ r, R[k] = r := ⟨_, rfl⟩
        rw [hr] at hco hget
        have hset := HA.out.setRow (j := 3) (y := ⟨ri, rg, rm, v, rc⟩) (u := .int .u64 v) hget (by decide) rfl
        have hset2 := hset.1.setRow (k := k) (j := 4) (x := ⟨ri, rg, rm, v, rc⟩) (y := ⟨ri, rg, rm, v, true⟩) (u := .bool true) (by rw [List.getElem?_set_self hk]) (by decide) rfl
        obtain ⟨bq, oq, cq, hvq, _, hcoq⟩ := (hset.1.lst.sl elRR.len).at_ (i := k) (x := ⟨ri, rg, rm, v, rc⟩) (by rw [List.getElem?_set_self hk])
        obtain ⟨⟨rfl, rfl⟩, -, rfl⟩ : (b4 = bq ∧ o4 = oq) ∧ R.length = (R.set k ⟨ri, rg, rm, v, rc⟩).length ∧ cap = cq := by simpa using hvq
        have r4 : (w2.setCell ⟨b4, o4 + k * 5 + 3, none⟩ (.int .u64 v)).cell? ⟨b4, o4 + k * 5 + 4, none⟩ = some (.bool rc) := hcoq 4 (by simp [enRR])
        have k4 : (w2.setCell ⟨b4, o4 + k * 5 + 3, none⟩ (.int .u64 v)).frozen? ⟨b4, o4 + k * 5 + 4, none⟩ = false := hset.1.lst.frozen (o4 + k * 5 + 4)
        have q3 : w2.drew.cell? ⟨b4, o4 + k * 5 + 3, none⟩ = some (.int .u64 rv) := hco 3 (by simp [enRR])
        have f3 : w2.drew.frozen? ⟨b4, o4 + k * 5 + 3, none⟩ = false := HA.out.lst.frozen (o4 + k * 5 + 3)
        have hS : w2.drew.cell? ⟨xb, 3, none⟩ = some (.slice (some ⟨b4, o4, none⟩) R.length cap) := c3
        have HSET := Lib.hid hset
        have HSET2 := Lib.hid hset2
        clear hveq hco hget hr hset hset2 c3 hvq hcoq
        go_upto_region 9 with (fail)
        refine wp_region_x (fun w' => w'.cell? ⟨xb, 3, none⟩ = some (.slice (some ⟨b4, o4, none⟩) R.length cap)) [(0, 1), (1, 1), (2, 1), (3, 0), (4, 1), (5, 1), (6, 1), (7, 1), (8, 0), (9, 1), (10, 1), (11, 1), (12, 1), (13, 3), (14, 1), (15, 1), (16, 3)] (by kernel_rfl) (by kernel_rfl) (by intro d v c a w h; cases d <;> exact h) ?_
        iterate 3 (refine x_take rfl (fun K hK => ?_); go_simp; refine hK _ ?_; clear hK K)
        refine x_read rfl hS (fun w' h => exec_load1 ⟨⟨_, Try.underlying33, rfl⟩⟩ rfl h) ?_
        iterate 4 (refine x_take rfl (fun K hK => ?_); go_simp; refine hK _ ?_; clear hK K)
        refine x_read rfl hS (fun w' h => exec_load1 ⟨⟨_, Try.underlying33, rfl⟩⟩ rfl h) ?_
        iterate 4 (refine x_take rfl (fun K hK => ?_); go_simp; refine hK _ ?_; clear hK K)
        refine x_exec' rfl (fun K hK => ?_)
        go_simp
        refine hK _ _ ?_
        clear hK K
        iterate 2 (refine x_take rfl (fun K hK => ?_); go_simp; refine hK _ ?_; clear hK K)
        refine x_exec' rfl (fun K hK => ?_)
        go_simp
        refine hK _ _ ?_
        clear hK K
        refine x_nil ?_
        clear q3 f3 r4 k4 hS
        go_wp2
        go_ret
        exact ⟨⟨_, rfl⟩, RAt.doneSet HB2.out (HSET2.out.1.below (Below.refl _ _).drew) ((mT HSET.out.2 HSET2.out.2).drew) (fun r hr => .inl hr) (by rw [List.length_set, List.length_set]; exact h1) h2 h3⟩
  · have t1 : (ph != 1) = true := by simpa using hp
    clear hp
    go_enter Try.func36, Try.ntmps36
    go_upto_region 1 with (fail)
    rw [H1.out]
    go_wp2
    go_ret
    exact ⟨⟨_, rfl⟩, RAt.doneSet (w1 := w1) HB.out HA1.out (Mod.refl _ _) (fun r hr => .inl hr) h1 h2 h3⟩
end
end Go.Proofs.Ythckjciblngaaaa
