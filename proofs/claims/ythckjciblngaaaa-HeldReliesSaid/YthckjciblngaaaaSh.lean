/- The document's Held: Want, its lease's Ack: that they come back, and leave it whole. -/
import Derived.Test.YthckjciblngaaaaSg
namespace Go.Proofs.Ythckjciblngaaaa
open Go.RowKit Go.Tn Go.Maps Go.Sort Go.Shelf

section
variable {w : World} {xb xl : Nat} {ph se bo : Int} {lv : Value} {R : List RRow} {wv : Value} {W : List Fi} {tm : Int} {sv : Value} {T : List Int}
set_option maxRecDepth 20000 in
set_option maxHeartbeats 4000000 in
theorem rWant_any (h : RAt w xb xl ph se bo lv R wv W tm sv T) (hnW : W.length ≤ 1000) (i g : Int) {n : Nat} (h1 : R.length ≤ n) (h2 : W.length ≤ n) (h3 : T.length ≤ n) : Calls Try.prog 41 #[.pointer (some ⟨xb, 0, none⟩), .agg #[.int .i64 i, .int .i64 g]] w
    fun e w' => SomeInt e ∧ RDone w xb (n + 1) (rfoot xb xl lv wv sv) w' := by
  obtain ⟨w1, hw1⟩ : ∃ w1, w.alloc (.cells #[.int .i64 i, .int .i64 g] 39) = w1 := ⟨_, rfl⟩
  have hW : Below w.heap.size w w1 := by rw [← hw1]; exact (Below.refl _ _).alloc (Nat.le_refl _) _
  have hsz1 : w1.heap.size = w.heap.size + 1 := by rw [← hw1]; simp
  have hbox : Lies w1 w.heap.size 0 #[.int .i64 i, .int .i64 g] := by rw [← hw1]; exact box_file
  have hA1 := h.below hW
  have c0 := hA1.c0
  have hsl := hA1.wan.sl elF.len
  obtain ⟨ao, cap, rfl, hcl, hcm, _⟩ := hA1.wan.sl elF.len
  unfold maxLen at hcm
  have HB := Lib.hid hbox
  have H1 := Lib.hid hw1
  have HS := Lib.hid hsz1
  have HH := Lib.hid hA1
  have HHO := Lib.hid h
  have HW := Lib.hid hW
  have hend : ∀ w2, Below w.heap.size w w2 → RDone w xb (n + 1) (rfoot xb xl lv (.slice ao W.length cap) sv) w2 := fun w2 hb => (h.below hb).done (mB hb) (fun r hr => fL hr) (fun r hr => fW hr) (fun r hr => fS hr) (by omega) (by omega) (by omega)
  have HEND := Lib.hid hend
  have hxb := h.lt xb (.inl rfl)
  have hxl := h.lt xl (.inr (.inl rfl))
  clear h hbox hw1 hsz1 hA1 hW hend
  by_cases hp : ph = 2
  · subst hp
    go_enter Try.func41, Try.ntmps41
    go_upto_region 1 with (fail)
    rw [H1.out]
    go_wp2
    go_loopw [5] (fun kv wr => ∃ k : Nat, k ≤ W.length ∧ kv = .int .i64 k ∧ Below w1.heap.size w1 wr) (fun kv _ => W.length - (intOf kv).toNat)
    case atStart => exact ⟨0, Nat.zero_le _, rfl, Below.refl _ _⟩
    case round =>
      obtain ⟨k, hk, rfl, hbr⟩ := hrel
      have hHr := HH.out.below hbr
      have c4 := hHr.c4
      have HHR := Lib.hid hHr
      have HBR := Lib.hid (HW.out.trans (hbr.mono HW.out.size))
      have HBR1 := Lib.hid hbr
      have hX := HB.out.below' hbr (by have := HS.out; omega)
      have p0 : wr.cell? ⟨w.heap.size, 0, none⟩ = some (.int .i64 i) := hX 0 (by simp)
      have p1 : wr.cell? ⟨w.heap.size, 1, none⟩ = some (.int .i64 g) := hX 1 (by simp)
      clear hHr hX c0
      by_cases hlt : k < W.length
      · have hlt' : (k : Int) < (W.length : Int) := by omega
        obtain ⟨b4, o4, cap4, hveq, hb4, hco⟩ := hsl.at_ (List.getElem?_eq_getElem hlt)
        obtain ⟨rfl, rfl⟩ : ao = some ⟨b4, o4, none⟩ ∧ cap = cap4 := by simpa using hveq
        have hl := hco.below' hbr hb4
        clear hco hveq hbr
        generalize W[k] = r at *
        obtain ⟨ri, rg⟩ := r
        have q0 : wr.cell? ⟨b4, o4 + k * 2, none⟩ = some (.int .i64 ri) := hl 0 (by simp [enF])
        have q1 : wr.cell? ⟨b4, o4 + k * 2 + 1, none⟩ = some (.int .i64 rg) := hl 1 (by simp [enF])
        clear hl
        have hcase : (ri = i ∧ rg = g) ∨ (ri == i) = false ∨ (ri = i ∧ (rg == g) = false) := by
          by_cases e1 : ri = i
          · by_cases e2 : rg = g
            · exact .inl ⟨e1, e2⟩
            · exact .inr (.inr ⟨e1, by simpa using e2⟩)
          · exact .inr (.inl (by simpa using e1))
        rcases hcase with ⟨rfl, rfl⟩ | t | ⟨rfl, t⟩
        · go_wp2
          go_quiet (fail)
          go_wp2
          go_ret
          exact ⟨⟨_, rfl⟩, HEND.out _ (below_drewN HBR.out _)⟩
        all_goals
          go_wp2
          go_quiet (fail)
          go_wp2
          go_roundw
          case rel => exact ⟨k + 1, by omega, by go_num, below_drewN HBR1.out _⟩
          case measure => simp [intOf]; omega
      · obtain rfl : k = W.length := by omega
        have hal : Below wr.heap.size wr (wr.alloc (.cells #[.int .i64 i, .int .i64 g] 39)) := (Below.refl _ _).alloc (Nat.le_refl _) _
        have h3' := HHR.out.below hal
        have hlit : LSl enF 2 (wr.alloc (.cells #[.int .i64 i, .int .i64 g] 39)) (.slice (some ⟨wr.heap.size, 0, none⟩) 1 1) [(i, g)] := LSl.lit (en := enF) (x := ((i, g) : Fi)) elF.len 39
        obtain ⟨v5, w5, hrun, hO5, hg5, hl5⟩ := run_appendM elF (ty := 34) h3'.wan hlit (by simp; omega)
        have hb5 : w5.heap[xb]? = (wr.alloc (.cells #[.int .i64 i, .int .i64 g] 39)).heap[xb]? := hg5.block xb (h3'.lt xb (.inl rfl)) (fun e => (h3'.ow xb e.symm).1 rfl)
        have hl5' : w5.heap[xl]? = (wr.alloc (.cells #[.int .i64 i, .int .i64 g] 39)).heap[xl]? := hg5.block xl (h3'.lt xl (.inr (.inl rfl))) (fun e => (h3'.ow xl e.symm).2 rfl)
        obtain ⟨va, vn, vc, rfl⟩ := LOut.shape hO5
        have hblk5 := hb5.trans h3'.blk
        have hlea5 := hl5'.trans h3'.lea
        have d4 := cell_of (o := 4) hblk5 rfl
        have f4 := free_of (o := 4) hblk5
        have hM5 : Mod (rfoot xb xl lv (.slice ao W.length cap) sv) w w5 := Mod.grown (mB (HBR.out.trans (hal.mono HBR.out.size))) hg5 fun r hr _ => .inr (.inr (.inr (.inl hr)))
        have hown : ∀ r, (Value.slice va vn vc).ownBlock = some r → (Value.slice ao W.length cap).ownBlock = some r ∨ w.heap.size ≤ r := fun r hr => by
          rcases hl5 with e | e
          · exact .inl (e ▸ hr)
          · rw [e] at hr
            cases hr
            exact .inr (Nat.le_trans HBR.out.size hal.size)
        have hnx : ∀ r, (Value.slice va vn vc).ownBlock = some r → r ≠ xb ∧ r ≠ xl := fun r hr => by
          rcases hown r hr with e | e
          · exact h3'.ow r e
          · exact ⟨by omega, by omega⟩
        have hkeepL : LOut enRR 5 89 0 w5 lv R := h3'.lst.kept hg5.size fun r hr => hg5.block r (h3'.lst.lt hr) (fun e => by
          obtain ⟨c1, k1⟩ := LOut.cells h3'.lst hr
          obtain ⟨c2, k2⟩ := LOut.cells h3'.wan e.symm
          rw [k1] at k2
          cases k2)
        have hkeepS : LOut enU 1 32 0 w5 sv T := h3'.snt.kept hg5.size fun r hr => hg5.block r (h3'.snt.lt hr) (fun e => by
          obtain ⟨c1, k1⟩ := LOut.cells h3'.snt hr
          obtain ⟨c2, k2⟩ := LOut.cells h3'.wan e.symm
          rw [k1] at k2
          cases k2)
        have hm6 : Mod (fun x => x = xb) w5 (w5.setCell ⟨xb, 4, none⟩ (.slice va vn vc)) := (Mod.refl _ _).cell _ _
        have hF : RAt (w5.setCell ⟨xb, 4, none⟩ (.slice va vn vc)) xb xl 2 se bo lv R (.slice va vn vc) (W ++ [(i, g)]) tm sv T :=
          ⟨heap_setCell_at hblk5, hm6.heap hlea5 (fun e => h3'.ne e.symm), hkeepL.kept hm6.size fun r hr => hm6.block r (hkeepL.lt hr) (fun e => (h3'.ol r hr).1 e), hO5.kept hm6.size fun r hr => hm6.block r (hO5.lt hr) (fun e => (hnx r hr).1 e), hkeepS.kept hm6.size fun r hr => hm6.block r (hkeepS.lt hr) (fun e => (h3'.os r hr).1 e), h3'.ne, h3'.ol, hnx, h3'.os⟩
        have hfin : RDone w xb (n + 1) (rfoot xb xl lv (.slice ao W.length cap) sv) (w5.setCell ⟨xb, 4, none⟩ (.slice va vn vc)) := hF.done (mT hM5 (mX hm6)) (fun r hr => fL hr) (fun r hr => by
          rcases hown r hr with e | e
          · exact fW e
          · exact .inr e) (fun r hr => fS hr) (by omega) (by rw [List.length_append]; simp; omega) (by omega)
        have HFI := Lib.hid hfin
        clear hbr hal h3' hlit hO5 hg5 hl5 hb5 hl5' hblk5 hlea5 hM5 hown hnx hkeepL hkeepS hm6 hF hfin
        go_wp2_with (first
          | ((with_reducible refine wpList_exec rfl (exec_append_of hrun ?_ ?_) ?_); rfl; rfl; go_frame)
          | fail)
        go_ret
        exact ⟨⟨_, rfl⟩, HFI.out⟩
  · have t1 : (ph != 2) = true := by simpa using hp
    clear hp
    go_enter Try.func41, Try.ntmps41
    go_upto_region 1 with (fail)
    rw [H1.out]
    go_wp2
    go_ret
    exact ⟨⟨_, rfl⟩, HEND.out _ HW.out⟩

set_option maxRecDepth 20000 in
set_option maxHeartbeats 2000000 in
theorem rAck_any (h : RAt w xb xl ph se bo lv R wv W tm sv T) (hnT : T.length ≤ 1000) (v : Int) {n : Nat} (h1 : R.length ≤ n) (h2 : W.length ≤ n) (h3 : T.length ≤ n) : Calls Try.prog 42 #[.pointer (some ⟨xl, 0, none⟩), .int .u64 v] w
    fun e w' => SomeInt e ∧ RDone w xb (n + 1) (rfoot xb xl lv wv sv) w' ∧ w'.cell? ⟨xb, 5, none⟩ = some (.pointer (some ⟨xl, 0, none⟩)) := by
  have HST := Lib.hid (And.intro (h.isD (n := n + 1) (by omega) (by omega) (by omega)) h.c5)
  obtain ⟨ao, cap, rfl, hcl, hcm, _⟩ := h.snt.sl elU.len
  unfold maxLen at hcm
  have l1 := cell_of (o := 1) h.lea rfl
  have k1 := free_of (o := 1) h.lea
  have hxb := h.lt xb (.inl rfl)
  have hxl := h.lt xl (.inr (.inl rfl))
  by_cases hbig : 1099511627775 < v
  · clear h
    go_enter Try.func42, Try.ntmps42
    go_wp2
    go_ret
    exact ⟨⟨_, rfl⟩, HST.out⟩
  · have hle : v ≤ 1099511627775 := by omega
    clear hbig
    have hal : Below w.heap.size w (w.alloc (.cells #[.int .u64 v] 32)) := (Below.refl _ _).alloc (Nat.le_refl _) _
    have h3' := h.below hal
    have hlit : LSl enU 1 (w.alloc (.cells #[.int .u64 v] 32)) (.slice (some ⟨w.heap.size, 0, none⟩) 1 1) [v] := LSl.lit (en := enU) (x := v) elU.len 32
    obtain ⟨v5, w5, hrun, hO5, hg5, hl5⟩ := run_appendM elU (ty := 29) h3'.snt hlit (by simp; omega)
    have hb5 : w5.heap[xb]? = (w.alloc (.cells #[.int .u64 v] 32)).heap[xb]? := hg5.block xb (h3'.lt xb (.inl rfl)) (fun e => (h3'.os xb e.symm).1 rfl)
    have hl5' : w5.heap[xl]? = (w.alloc (.cells #[.int .u64 v] 32)).heap[xl]? := hg5.block xl (h3'.lt xl (.inr (.inl rfl))) (fun e => (h3'.os xl e.symm).2 rfl)
    obtain ⟨va, vn, vc, rfl⟩ := LOut.shape hO5
    have hblk5 := hb5.trans h3'.blk
    have hlea5 := hl5'.trans h3'.lea
    have d1 := cell_of (o := 1) hlea5 rfl
    have f1 := free_of (o := 1) hlea5
    have hM5 : Mod (rfoot xb xl lv wv (.slice ao T.length cap)) w w5 := Mod.grown (mB hal) hg5 fun r hr _ => .inr (.inr (.inr (.inr hr)))
    have hown : ∀ r, (Value.slice va vn vc).ownBlock = some r → (Value.slice ao T.length cap).ownBlock = some r ∨ w.heap.size ≤ r := fun r hr => by
      rcases hl5 with e | e
      · exact .inl (e ▸ hr)
      · rw [e] at hr
        cases hr
        exact .inr hal.size
    have hnx : ∀ r, (Value.slice va vn vc).ownBlock = some r → r ≠ xb ∧ r ≠ xl := fun r hr => by
      rcases hown r hr with e | e
      · exact h3'.os r e
      · exact ⟨by omega, by omega⟩
    have hkeepL : LOut enRR 5 89 0 w5 lv R := h3'.lst.kept hg5.size fun r hr => hg5.block r (h3'.lst.lt hr) (fun e => by
      obtain ⟨c1, k1⟩ := LOut.cells h3'.lst hr
      obtain ⟨c2, k2⟩ := LOut.cells h3'.snt e.symm
      rw [k1] at k2
      cases k2)
    have hkeepW : LOut enF 2 39 0 w5 wv W := h3'.wan.kept hg5.size fun r hr => hg5.block r (h3'.wan.lt hr) (fun e => by
      obtain ⟨c1, k1⟩ := LOut.cells h3'.wan hr
      obtain ⟨c2, k2⟩ := LOut.cells h3'.snt e.symm
      rw [k1] at k2
      cases k2)
    have hm6 : Mod (fun x => x = xl) w5 (w5.setCell ⟨xl, 1, none⟩ (.slice va vn vc)) := (Mod.refl _ _).cell _ _
    have hF : RAt (w5.setCell ⟨xl, 1, none⟩ (.slice va vn vc)) xb xl ph se bo lv R wv W tm (.slice va vn vc) (T ++ [v]) :=
      ⟨hm6.heap hblk5 (fun e => h3'.ne e), heap_setCell_at hlea5, hkeepL.kept hm6.size fun r hr => hm6.block r (hkeepL.lt hr) (fun e => (h3'.ol r hr).2 e), hkeepW.kept hm6.size fun r hr => hm6.block r (hkeepW.lt hr) (fun e => (h3'.ow r hr).2 e), hO5.kept hm6.size fun r hr => hm6.block r (hO5.lt hr) (fun e => (hnx r hr).2 e), h3'.ne, h3'.ol, h3'.ow, hnx⟩
    have hfin : RDone w xb (n + 1) (rfoot xb xl lv wv (.slice ao T.length cap)) (w5.setCell ⟨xl, 1, none⟩ (.slice va vn vc)) := hF.done (mT hM5 (hm6.mono fun x _ e => .inr (.inl e))) (fun r hr => fL hr) (fun r hr => fW hr) (fun r hr => by
      rcases hown r hr with e | e
      · exact fS e
      · exact .inr e) (by omega) (by omega) (by rw [List.length_append]; simp; omega)
    have HFI := Lib.hid (And.intro hfin hF.c5)
    clear h hal h3' hlit hO5 hg5 hl5 hb5 hl5' hblk5 hlea5 hM5 hown hnx hkeepL hkeepW hm6 hF hfin
    go_enter Try.func42, Try.ntmps42
    go_wp2_with (first
      | ((with_reducible refine wpList_exec rfl (exec_append_of hrun ?_ ?_) ?_); rfl; rfl; go_frame)
      | fail)
    go_ret
    exact ⟨⟨_, rfl⟩, HFI.out⟩
end
end Go.Proofs.Ythckjciblngaaaa
