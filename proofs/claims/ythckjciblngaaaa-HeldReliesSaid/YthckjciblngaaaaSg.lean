/- The document's Held: Give, Want, its lease's Ack: that they come back, and leave it whole. Same: that it comes back. -/
import Derived.Test.YthckjciblngaaaaSf
import Derived.Test.YthckjciblngaaaaHd
namespace Go.Proofs.Ythckjciblngaaaa
open Go.RowKit Go.Tn Go.Maps Go.Sort Go.Shelf

set_option maxHeartbeats 2000000 in
theorem same_some (w : World) (u v : Value) (xs ys : List Fi) (hu : LSl enF 2 w u xs) (hv : LSl enF 2 w v ys) : Calls Try.prog 32 #[u, v] w fun e w' => (∃ b, e = .returned (.bool b)) ∧ Below w.heap.size w w' := by
  have hu0 := hu
  have hv0 := hv
  obtain ⟨au, cu, rfl, hu1, hu2, _⟩ := hu
  obtain ⟨av, cv, rfl, hv1, hv2, _⟩ := hv
  unfold maxLen at hu2 hv2
  have HU := Lib.hid hu0
  have HV := Lib.hid hv0
  clear hu0 hv0
  by_cases hlen : xs.length = ys.length
  · have HL := Lib.hid hlen
    rw [← hlen] at hv1 ⊢
    clear hlen
    go_enter Try.func32, Try.ntmps32
    go_wp2
    go_loopw [5] (fun kv wr => ∃ k : Nat, k ≤ xs.length ∧ kv = .int .i64 k ∧ Below w.heap.size w wr) (fun kv _ => xs.length - (intOf kv).toNat)
    case atStart => exact ⟨0, Nat.zero_le _, rfl, Below.refl _ _⟩
    case round =>
      obtain ⟨k, hk, rfl, hbr⟩ := hrel
      by_cases hlt : k < xs.length
      · have hlt' : (k : Int) < (xs.length : Int) := by omega
        have hlty : k < ys.length := by have := HL.out; omega
        obtain ⟨b1, o1, c1, hq1, hb1, hc1⟩ := HU.out.at_ (List.getElem?_eq_getElem hlt)
        obtain ⟨b2, o2, c2, hq2, hb2, hc2⟩ := HV.out.at_ (List.getElem?_eq_getElem hlty)
        obtain ⟨rfl, rfl⟩ : au = some ⟨b1, o1, none⟩ ∧ cu = c1 := by simpa using hq1
        obtain ⟨rfl, rfl⟩ : av = some ⟨b2, o2, none⟩ ∧ cv = c2 := by simpa using hq2
        have h1 := hc1.below' hbr hb1
        have h2 := hc2.below' hbr hb2
        clear hq1 hq2 hc1 hc2
        obtain ⟨⟨i, g⟩, hx⟩ : ∃ x, xs[k] = x := ⟨_, rfl⟩
        obtain ⟨⟨i', g'⟩, hy⟩ : ∃ y, ys[k] = y := ⟨_, rfl⟩
        rw [hx] at h1
        rw [hy] at h2
        have x1 : wr.cell? ⟨b1, o1 + k * 2, none⟩ = some (.int .i64 i) := h1 0 (by simp [enF])
        have x2 : wr.cell? ⟨b1, o1 + k * 2 + 1, none⟩ = some (.int .i64 g) := h1 1 (by simp [enF])
        have y1 : wr.cell? ⟨b2, o2 + k * 2, none⟩ = some (.int .i64 i') := h2 0 (by simp [enF])
        have y2 : wr.cell? ⟨b2, o2 + k * 2 + 1, none⟩ = some (.int .i64 g') := h2 1 (by simp [enF])
        have hcase : (i = i' ∧ g = g') ∨ (i == i') = false ∨ (i = i' ∧ (g == g') = false) := by
          by_cases e1 : i = i'
          · by_cases e2 : g = g'
            · exact .inl ⟨e1, e2⟩
            · exact .inr (.inr ⟨e1, by simpa using e2⟩)
          · exact .inr (.inl (by simpa using e1))
        have HBR := Lib.hid hbr
        clear h1 h2 hx hy hbr hlty
        rcases hcase with ⟨rfl, rfl⟩ | t | ⟨rfl, t⟩
        · go_wp2
          go_quiet (fail)
          go_wp2
          go_roundw
          case rel => exact ⟨k + 1, by omega, by go_num, below_drewN HBR.out _⟩
          case measure => simp [intOf]; omega
        · go_wp2
          go_quiet (fail)
          go_wp2
          go_ret
          exact ⟨⟨_, rfl⟩, below_drewN HBR.out _⟩
        · go_wp2
          go_quiet (fail)
          go_wp2
          go_ret
          exact ⟨⟨_, rfl⟩, below_drewN HBR.out _⟩
      · obtain rfl : k = xs.length := by omega
        go_wp2
        go_ret
        exact ⟨⟨_, rfl⟩, hbr⟩
  · have t1 : ((xs.length : Int) != (ys.length : Int)) = true := by simpa using fun e : (xs.length : Int) = (ys.length : Int) => hlen (by omega)
    clear hlen
    go_enter Try.func32, Try.ntmps32
    go_wp2
    go_ret
    exact ⟨⟨_, rfl⟩, Below.refl _ _⟩

section
variable {w : World} {xb xl : Nat} {ph se bo : Int} {lv : Value} {R : List RRow} {wv : Value} {W : List Fi} {tm : Int} {sv : Value} {T : List Int}
set_option maxRecDepth 20000 in
set_option maxHeartbeats 4000000 in
theorem rGive_any (h : RAt w xb xl ph se bo lv R wv W tm sv T) (hn : R.length ≤ 1000) (hnW : W.length ≤ 1000) (i g : Int) {n : Nat} (h1 : R.length ≤ n) (h2 : W.length ≤ n) (h3 : T.length ≤ n) : Calls Try.prog 39 #[.pointer (some ⟨xb, 0, none⟩), .agg #[.int .i64 i, .int .i64 g]] w
    fun e w' => SomeInt e ∧ RDone w xb n (rfoot xb xl lv wv sv) w' := by
  obtain ⟨w1, hw1⟩ : ∃ w1, w.alloc (.cells #[.int .i64 i, .int .i64 g] 39) = w1 := ⟨_, rfl⟩
  have hW : Below w.heap.size w w1 := by rw [← hw1]; exact (Below.refl _ _).alloc (Nat.le_refl _) _
  have hsz1 : w1.heap.size = w.heap.size + 1 := by rw [← hw1]; simp
  have hbox : Lies w1 w.heap.size 0 #[.int .i64 i, .int .i64 g] := by rw [← hw1]; exact box_file
  have hA1 := h.below hW
  have hsl := hA1.wan.sl elF.len
  obtain ⟨ao, cap, rfl, hcl, hcm, _⟩ := hA1.wan.sl elF.len
  unfold maxLen at hcm
  have HB := Lib.hid hbox
  have H1 := Lib.hid hw1
  have HS := Lib.hid hsz1
  have HH := Lib.hid hA1
  have HHO := Lib.hid h
  have HW := Lib.hid hW
  have hxb := h.lt xb (.inl rfl)
  have hxl := h.lt xl (.inr (.inl rfl))
  clear h hbox hw1 hsz1 hA1 hW
  go_enter Try.func39, Try.ntmps39
  go_upto_region 1 with (fail)
  rw [H1.out]
  go_wp2
  go_loopw [5, 6] (fun ov kv wr => ∃ (k : Nat) (X : List Fi), k ≤ W.length ∧ kv = .int .i64 k ∧ LOut enF 2 39 w1.heap.size wr ov X ∧ X.length ≤ k ∧ Below w1.heap.size w1 wr) (fun _ kv _ => W.length - (intOf kv).toNat)
  case atStart => exact ⟨0, [], Nat.zero_le _, rfl, LOut.nil (Nat.le_refl _), Nat.le_refl _, Below.refl _ _⟩
  case round =>
    obtain ⟨k, X, hk, rfl, hO, hfl, hbr⟩ := hrel
    have hHr := HH.out.below hbr
    have c4 := hHr.c4
    have HHR := Lib.hid hHr
    have HBR := Lib.hid hbr
    have hX := HB.out.below' hbr (by have := HS.out; omega)
    have p0 : wr.cell? ⟨w.heap.size, 0, none⟩ = some (.int .i64 i) := hX 0 (by simp)
    have p1 : wr.cell? ⟨w.heap.size, 1, none⟩ = some (.int .i64 g) := hX 1 (by simp)
    clear hHr hX
    by_cases hlt : k < W.length
    · have hlt' : (k : Int) < (W.length : Int) := by omega
      obtain ⟨b4, o4, cap4, hveq, hb4, hco⟩ := hsl.at_ (List.getElem?_eq_getElem hlt)
      obtain ⟨rfl, rfl⟩ : ao = some ⟨b4, o4, none⟩ ∧ cap = cap4 := by simpa using hveq
      have hl := hco.below' hbr hb4
      clear hco hveq
      generalize W[k] = r at *
      obtain ⟨ri, rg⟩ := r
      have q0 : wr.cell? ⟨b4, o4 + k * 2, none⟩ = some (.int .i64 ri) := hl 0 (by simp [enF])
      have q1 : wr.cell? ⟨b4, o4 + k * 2 + 1, none⟩ = some (.int .i64 rg) := hl 1 (by simp [enF])
      have HL := Lib.hid hl
      have HO := Lib.hid hO
      have hol : X.length ≤ 1000 := by omega
      clear hl hbr hO
      by_cases hh : ri = i ∧ rg = g
      · obtain ⟨rfl, rfl⟩ := hh
        go_wp2
        go_quiet (fail)
        go_wp2
        go_roundw
        case rel => exact ⟨k + 1, X, by omega, by go_num, HO.out.below (below_drewN (Below.refl _ _) _), by omega, below_drewN HBR.out _⟩
        case measure => simp [intOf]; omega
      · have hcase : (ri == i) = false ∨ (ri = i ∧ (rg == g) = false) := by
          by_cases h1 : ri = i
          · exact .inr ⟨h1, by simpa using fun h2 => hh ⟨h1, h2⟩⟩
          · exact .inl (by simpa using h1)
        clear hh
        rcases hcase with t | ⟨rfl, t⟩
        all_goals
          go_wp2
          go_quiet (fail)
          go_wp2_with (first
            | ((with_reducible refine wpList_loadA (aggF ri rg) (HL.out.drewN nq) ?_ ?_); rfl; go_frame)
            | ((with_reducible refine wpList_append1 elF (HO.out.below (below_drewN (Below.refl _ _) nq)) (ri, rg) hol ?_ ?_ ?_ ?_); rfl; rfl; rfl; (intro v2 w4 hO4 hb4'); go_frame)
            | fail)
          refine ⟨⟨k + 1, _, by omega, by go_num, hO4, by rw [List.length_append]; simp; omega, (below_drewN HBR.out nq).trans hb4'⟩, by simp [intOf]; omega⟩
    · obtain rfl : k = W.length := by omega
      obtain ⟨va, vn, vc, rfl⟩ := LOut.shape hO
      have f4 := HHR.out.free (o := 4)
      have hm1 : Mod (fun x => x = xb) wr (wr.setCell ⟨xb, 4, none⟩ (.slice va vn vc)) := (Mod.refl _ _).cell _ _
      have hsw := HW.out.size
      have hB : Below w.heap.size w wr := HW.out.trans (hbr.mono hsw)
      have hlo : ∀ r, (Value.slice va vn vc).ownBlock = some r → w.heap.size ≤ r := fun r hr => Nat.le_trans hsw (hO.lo r hr)
      have hT := HHR.out.turn (heap_setCell_at HHR.out.blk) hm1 (HHR.out.keepL hm1) ((hO.mono (Nat.zero_le _)).kept hm1.size fun r hr => hm1.block r (hO.lt hr) (fun e => by have := hlo r hr; omega)) HHR.out.ol (fun r hr => by have := hlo r hr; exact ⟨by omega, by omega⟩)
      have hbx := boxCells ⟨p0, p1⟩ hm1 (by omega)
      have HT := Lib.hid hT
      have HM1 := Lib.hid hm1
      have HBW := Lib.hid hB
      have HLO := Lib.hid hlo
      have HBX := Lib.hid hbx
      clear hO hbr hm1 hB hlo hT hbx p0 p1
      go_upto_region 8 with (fail)
      clear c4 f4
      generalize wr.setCell ⟨xb, 4, none⟩ (.slice va vn vc) = w5 at *
      obtain ⟨p0, p1⟩ := HBX.out
      have hmW : Mod (rfoot xb xl lv (.slice ao W.length cap) sv) w w5 := mT (mB HBW.out) (mX HM1.out)
      have hd0 : ∀ w6 lv6 R6, RAt w6 xb xl ph se bo lv6 R6 (.slice va vn vc) X tm sv T → Mod (fun x => x = xb) w5 w6 → (∀ r, lv6.ownBlock = some r → lv.ownBlock = some r ∨ w5.heap.size ≤ r) → R6.length ≤ n → RDone w xb n (rfoot xb xl lv (.slice ao W.length cap) sv) w6 := fun w6 lv6 R6 h6 hm6 ho6 hl6 =>
        h6.done (mT hmW (mX hm6)) (fun r hr => by
          rcases ho6 r hr with e | e
          · exact fL e
          · exact .inr (Nat.le_trans hmW.size e)) (fun r hr => .inr (HLO.out r hr)) (fun r hr => fS hr) hl6 (by omega) h3
      have hat := rAt_any HT.out hn i g
      have HD := Lib.hid hd0
      have hlt5 : w.heap.size < w5.heap.size := World.block_lt_of_cell? w5 _ p0
      clear hmW hd0
      go_wp2_with fail
      refine hat.mono ?_
      rintro e w6 ⟨⟨r, rfl, hr⟩, hb6⟩
      have h6 := HT.out.below hb6
      have q0 : w6.cell? ⟨w.heap.size, 0, none⟩ = some (.int .i64 i) := (hb6.cell (p := ⟨w.heap.size, 0, none⟩) hlt5).trans p0
      have q1 : w6.cell? ⟨w.heap.size, 1, none⟩ = some (.int .i64 g) := (hb6.cell (p := ⟨w.heap.size, 1, none⟩) hlt5).trans p1
      have H6 := Lib.hid h6
      have HB6 := Lib.hid hb6
      clear h6 hb6 hat p0 p1
      rcases hr with rfl | ⟨k2, rfl, hk2⟩
      · go_wp2
        go_ret
        exact ⟨⟨_, rfl⟩, HD.out _ _ _ H6.out (mB HB6.out) (fun r hr => .inl hr) h1⟩
      · have hk0 : (0 : Int) ≤ (k2 : Int) := by omega
        have hd := rdrop_any H6.out hn i g
        go_wp2_with fail
        refine hd.mono ?_
        rintro e w7 ⟨rfl, ⟨lv7, R7, h7, hl7, ho7⟩, hm7⟩
        have hfin := HD.out w7 lv7 R7 h7 (mT (mB HB6.out) hm7) (fun r hr => .inr (Nat.le_trans HB6.out.size (ho7 r hr))) (by omega)
        have HFI := Lib.hid hfin
        clear hd h7 hl7 ho7 hm7 hfin q0 q1
        go_wp2
        go_ret
        exact ⟨⟨_, rfl⟩, HFI.out⟩
end
end Go.Proofs.Ythckjciblngaaaa
