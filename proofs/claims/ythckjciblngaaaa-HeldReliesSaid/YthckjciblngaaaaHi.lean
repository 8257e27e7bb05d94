/- slices.Index, Contains over files; Held: Want, Ack: walked. -/
import Derived.Test.YthckjciblngaaaaHh
namespace Go.Proofs.Ythckjciblngaaaa
open Go.RowKit Go.Tn Go.Maps Go.Sort Go.Shelf

set_option maxHeartbeats 2000000 in
theorem index_any (w : World) (v : Value) (W : List Fi) (h : LSl enF 2 w v W) (i g : Int) : Calls Try.prog 68 #[v, .agg #[.int .i64 i, .int .i64 g]] w
    fun e w' => (∃ r : Int, e = .returned (.int .i64 r) ∧ ((r = -1 ∧ (i, g) ∉ W) ∨ (0 ≤ r ∧ (i, g) ∈ W))) ∧ Below w.heap.size w w' := by
  obtain ⟨w1, hw1⟩ : ∃ w1, w.alloc (.cells #[.int .i64 i, .int .i64 g] 39) = w1 := ⟨_, rfl⟩
  have hW : Below w.heap.size w w1 := by rw [← hw1]; exact (Below.refl _ _).alloc (Nat.le_refl _) _
  have hsz1 : w1.heap.size = w.heap.size + 1 := by rw [← hw1]; simp
  have hbox : Lies w1 w.heap.size 0 #[.int .i64 i, .int .i64 g] := by rw [← hw1]; exact box_file
  have hsl := h.below hW
  obtain ⟨ao, cap, rfl, hcl, hcm, _⟩ := h
  unfold maxLen at hcm
  have HB := Lib.hid hbox
  have H1 := Lib.hid hw1
  have HS := Lib.hid hsz1
  have HH := Lib.hid hsl
  clear hbox hw1 hsz1 hsl
  go_enter Try.func68, Try.ntmps68
  go_upto_region 1 with (fail)
  rw [H1.out]
  go_wp2
  go_loopw [8] (fun kv wr => ∃ k : Nat, k ≤ W.length ∧ kv = .int .i64 k ∧ (i, g) ∉ W.take k ∧ Below w1.heap.size w1 wr) (fun kv _ => W.length - (intOf kv).toNat)
  case atStart => exact ⟨0, Nat.zero_le _, rfl, by simp, Below.refl _ _⟩
  case round =>
    obtain ⟨k, hk, rfl, hn, hbr⟩ := hrel
    have HN := Lib.hid hn
    clear hn
    by_cases hlt : k < W.length
    · have hlt' : (k : Int) < (W.length : Int) := by omega
      obtain ⟨b4, o4, cap4, hveq, hb4, hco⟩ := HH.out.at_ (List.getElem?_eq_getElem hlt)
      obtain ⟨rfl, rfl⟩ : ao = some ⟨b4, o4, none⟩ ∧ cap = cap4 := by simpa using hveq
      have hl := hco.below' hbr hb4
      have hX := HB.out.below' hbr (by have := HS.out; omega)
      have hmem := List.getElem_mem hlt
      have hmore : W[k] ≠ (i, g) → (i, g) ∉ W.take (k + 1) := fun he hm => by
        rw [List.take_succ_eq_append_getElem hlt, List.mem_append, List.mem_singleton] at hm
        rcases hm with hm | hm
        · exact HN.out hm
        · exact he hm.symm
      have HM := Lib.hid hmore
      have HE := Lib.hid hmem
      clear hco hveq hmore hmem
      generalize W[k] = r at *
      obtain ⟨ri, rg⟩ := r
      have q0 : wr.cell? ⟨b4, o4 + k * 2, none⟩ = some (.int .i64 ri) := hl 0 (by simp [enF])
      have q1 : wr.cell? ⟨b4, o4 + k * 2 + 1, none⟩ = some (.int .i64 rg) := hl 1 (by simp [enF])
      have p0 : wr.cell? ⟨w.heap.size, 0, none⟩ = some (.int .i64 i) := hX 0 (by simp)
      have p1 : wr.cell? ⟨w.heap.size, 1, none⟩ = some (.int .i64 g) := hX 1 (by simp)
      clear hl hX
      by_cases hh : ri = i ∧ rg = g
      · obtain ⟨rfl, rfl⟩ := hh
        clear HM
        go_wp2
        go_quiet (fail)
        go_wp2
        go_ret
        exact ⟨⟨_, rfl, .inr ⟨by omega, HE.out⟩⟩, hW.trans ((below_drewN hbr _).mono hW.size)⟩
      · have HZ := Lib.hid (HM.out fun e => hh ⟨by rw [Prod.mk.injEq] at e; exact e.1, by rw [Prod.mk.injEq] at e; exact e.2⟩)
        have hcase : (i == ri) = false ∨ (i = ri ∧ (g == rg) = false) := by
          by_cases h1 : i = ri
          · exact .inr ⟨h1, by simpa using fun h2 => hh ⟨h1.symm, h2.symm⟩⟩
          · exact .inl (by simpa using h1)
        clear hh HM
        rcases hcase with t | ⟨rfl, t⟩
        all_goals
          go_wp2
          go_quiet (fail)
          go_wp2
          go_roundw
          case rel => exact ⟨k + 1, by omega, by go_num, HZ.out, below_drewN hbr _⟩
          case measure => simp [intOf]; omega
    · obtain rfl : k = W.length := by omega
      go_wp2
      go_ret
      exact ⟨⟨_, rfl, .inl ⟨rfl, fun hm => HN.out (by rw [List.take_of_length_le (Nat.le_refl _)]; exact hm)⟩⟩, hW.trans (hbr.mono hW.size)⟩
theorem contains_any (w : World) (v : Value) (W : List Fi) (h : LSl enF 2 w v W) (i g : Int) : Calls Try.prog 53 #[v, .agg #[.int .i64 i, .int .i64 g]] w
    fun e w' => e = .returned (.bool (decide ((i, g) ∈ W))) ∧ Below w.heap.size w w' := by
  have hb : Below w.heap.size w (w.alloc (.cells #[.int .i64 i, .int .i64 g] 39)) := (Below.refl _ _).alloc (Nat.le_refl _) _
  have hi := index_any _ v W (h.below hb) i g
  obtain ⟨r, hr⟩ : ∃ r, decide ((i, g) ∈ W) = r := ⟨_, rfl⟩
  rw [hr]
  have HR := Lib.hid hr
  clear hr
  go_enter Try.func53, Try.ntmps53
  go_wp2_with fail
  refine hi.mono ?_
  rintro e w2 ⟨⟨r2, rfl, hr2⟩, hb2⟩
  have hB := hb.trans (hb2.mono (by simp))
  rcases hr2 with ⟨rfl, hn⟩ | ⟨h0, hy⟩
  · have HZ : Hid (r = false) := Lib.hid (by rw [← HR.out]; exact decide_eq_false hn)
    clear hn
    go_wp2
    go_ret
    exact ⟨by rw [HZ.out]; rfl, hB⟩
  · have HZ : Hid (r = true) := Lib.hid (by rw [← HR.out]; exact decide_eq_true hy)
    clear hy
    go_wp2
    go_ret
    exact ⟨by rw [HZ.out]; rfl, hB⟩

section
variable {w : World} {b m lb : Nat} {ph se bo : Int} {L : Ents Fi} {clk : Nat} {G : Gs} {wv : Value} {W : List Fi} {t u : Nat}
theorem want_out (h : HAt w b m lb ph se bo L clk G wv W t u) (hp : ph ≠ 2) (i g : Int) : Calls Try.prog 27 #[.pointer (some ⟨b, 0, none⟩), .agg #[.int .i64 i, .int .i64 g]] w
    fun e w' => e = .returned (.int .i64 2) ∧ Below w.heap.size w w' := by
  have hb : Below w.heap.size w (w.alloc (.cells #[.int .i64 i, .int .i64 g] 39)) := (Below.refl _ _).alloc (Nat.le_refl _) _
  have hm := must_no (h.below hb) hp
  clear hp
  go_enter Try.func27, Try.ntmps27
  go_wp2_with (go_at_call 31; refine hm.mono ?_; rintro e w ⟨rfl, rfl⟩)
  go_ret
  exact ⟨rfl, hb⟩
set_option maxRecDepth 20000 in
set_option maxHeartbeats 1000000 in
theorem want_in (h : HAt w b m lb 2 se bo L clk G wv W t u) (hl : W.length ≤ 1000) (i g : Int) : Calls Try.prog 27 #[.pointer (some ⟨b, 0, none⟩), .agg #[.int .i64 i, .int .i64 g]] w
    fun e w' => e = .returned (.int .i64 (if (i, g) ∈ W then 10 else 0)) ∧ (∃ wv', HAt w' b m lb 2 se bo L clk G wv' (if (i, g) ∈ W then W else W ++ [(i, g)]) t u ∧ ∀ r, wv'.ownBlock = some r → wv.ownBlock = some r ∨ w.heap.size ≤ r) ∧ Mod (fun x => x = b ∨ wv.ownBlock = some x) w w' := by
  have hb : Below w.heap.size w (w.alloc (.cells #[.int .i64 i, .int .i64 g] 39)) := (Below.refl _ _).alloc (Nat.le_refl _) _
  have h1 := h.below hb
  have hm := must_yes h1
  obtain ⟨wa, wn, wc, rfl⟩ := LOut.shape h.wants
  have hcon := contains_any (w.alloc (.cells #[.int .i64 i, .int .i64 g] 39)).drew _ W ((h1.wants.sl elF.len).below (Below.refl _ _).drew) i g
  have HC := Lib.hid hcon
  have HH := Lib.hid h
  have H1 := Lib.hid h1
  have hbx : Lies (w.alloc (.cells #[.int .i64 i, .int .i64 g] 39)) w.heap.size 0 #[.int .i64 i, .int .i64 g] := box_file
  have hS : (w.alloc (.cells #[.int .i64 i, .int .i64 g] 39)).drew.cell? ⟨b, 5, none⟩ = some (.slice wa wn wc) ∧ Lies (w.alloc (.cells #[.int .i64 i, .int .i64 g] 39)).drew w.heap.size 0 #[.int .i64 i, .int .i64 g] := ⟨h1.c5, hbx⟩
  have hltb : b < w.heap.size := h.b_lt
  clear hcon h1 h
  go_enter Try.func27, Try.ntmps27
  go_upto_region 4 with (go_at_call 31; refine hm.mono ?_; rintro e w' ⟨rfl, hw⟩; obtain rfl := hw.symm; clear hw)
  refine wp_region_x (fun w' => w'.cell? ⟨b, 5, none⟩ = some (.slice wa wn wc) ∧ Lies w' w.heap.size 0 #[.int .i64 i, .int .i64 g]) [(0, 1), (1, 1), (2, 1), (3, 0), (4, 0), (5, 2)] (by kernel_rfl) (by kernel_rfl) (by intro d v c a w h; cases d <;> exact h) ?_
  iterate 3 (refine x_take rfl (fun K hK => ?_); go_simp; refine hK _ ?_; clear hK K)
  refine x_read rfl hS (fun w' h => exec_load1 scalarFiles rfl h.1) ?_
  refine x_read rfl hS (fun w' h => exec_loadA (aggF _ _) rfl h.2) ?_
  refine x_show' rfl (fun K hK => ?_)
  go_simp
  refine HC.out.mono ?_
  rintro e w2 ⟨rfl, hb2⟩
  have hB2 : Below w.heap.size w w2 := hb.drew.trans (hb2.mono (by simp))
  have h2 := HH.out.below hB2
  have hbx2 : Lies w2 w.heap.size 0 #[.int .i64 i, .int .i64 g] := hS.2.below' hb2 (by show w.heap.size < (w.alloc (.cells #[.int .i64 i, .int .i64 g] 39)).heap.size; simp)
  refine hK _ _ ⟨h2.c5, hbx2⟩ ?_
  clear hK K hS
  refine x_nil ?_
  have H2 := Lib.hid h2
  have HBX := Lib.hid hbx2
  have HB2 := Lib.hid hB2
  clear h2 hbx2 hb2 hB2
  by_cases hin : (i, g) ∈ W
  · rw [decide_eq_true hin]
    have HIN := Lib.hid hin
    clear hin
    go_wp2
    go_ret
    refine ⟨rfl, ⟨_, H2.out, fun r hr => .inl hr⟩, (Mod.of_below HB2.out).mono fun x hx hh => absurd hx (Nat.not_lt.2 hh)⟩
  · rw [decide_eq_false hin]
    have HIN := Lib.hid hin
    clear hin
    go_upto_region 6 with (fail)
    have hS2 : w2.drew.cell? ⟨b, 5, none⟩ = some (.slice wa wn wc) ∧ Lies w2.drew w.heap.size 0 #[.int .i64 i, .int .i64 g] := ⟨H2.out.c5, HBX.out⟩
    refine wp_region_x (fun w' => w'.cell? ⟨b, 5, none⟩ = some (.slice wa wn wc) ∧ Lies w' w.heap.size 0 #[.int .i64 i, .int .i64 g]) [(0, 1), (1, 1), (2, 1), (3, 1), (4, 0), (5, 0), (6, 2), (7, 2), (8, 1), (9, 1), (10, 3)] (by kernel_rfl) (by kernel_rfl) (by intro d v c a w h; cases d <;> exact h) ?_
    iterate 4 (refine x_take rfl (fun K hK => ?_); go_simp; refine hK _ ?_; clear hK K)
    refine x_read rfl hS2 (fun w' h => exec_load1 scalarFiles rfl h.1) ?_
    refine x_read rfl hS2 (fun w' h => exec_loadA (aggF _ _) rfl h.2) ?_
    have hal : Below w2.drew.heap.size w2.drew (w2.drew.alloc (.cells #[.int .i64 i, .int .i64 g] 39)) := (Below.refl _ _).alloc (Nat.le_refl _) _
    have h3 := (H2.out.below (Below.refl _ w2).drew).below hal
    have hltx : w.heap.size < w2.drew.heap.size := World.block_lt_of_cell? w2.drew _ (hS2.2 0 (by simp))
    have hS3 : (w2.drew.alloc (.cells #[.int .i64 i, .int .i64 g] 39)).cell? ⟨b, 5, none⟩ = some (.slice wa wn wc) ∧ Lies (w2.drew.alloc (.cells #[.int .i64 i, .int .i64 g] 39)) w.heap.size 0 #[.int .i64 i, .int .i64 g] := ⟨h3.c5, hS2.2.below' hal hltx⟩
    have hlit : LSl enF 2 (w2.drew.alloc (.cells #[.int .i64 i, .int .i64 g] 39)) (.slice (some ⟨w2.drew.heap.size, 0, none⟩) 1 1) [(i, g)] := LSl.lit (en := enF) (x := ((i, g) : Fi)) elF.len 39
    obtain ⟨v5, w5, hrun, hO5, hg5, hl5⟩ := run_appendM elF (ty := 34) h3.wants hlit (by simp; omega)
    have hb5 : w5.heap[b]? = (w2.drew.alloc (.cells #[.int .i64 i, .int .i64 g] 39)).heap[b]? := hg5.block b h3.b_lt (fun e => (h3.own b e.symm).1 rfl)
    have hltx3 : w.heap.size < (w2.drew.alloc (.cells #[.int .i64 i, .int .i64 g] 39)).heap.size := Nat.lt_of_lt_of_le hltx hal.size
    have hx5 : w5.heap[w.heap.size]? = (w2.drew.alloc (.cells #[.int .i64 i, .int .i64 g] 39)).heap[w.heap.size]? := hg5.block _ hltx3 (fun e => by have := HH.out.wants.lt e.symm; omega)
    have hS5 : w5.cell? ⟨b, 5, none⟩ = some (.slice wa wn wc) ∧ Lies w5 w.heap.size 0 #[.int .i64 i, .int .i64 g] := ⟨(World.cell?_of_block (a := ⟨b, 5, none⟩) hb5).trans hS3.1, fun j hj => (World.cell?_of_block (a := ⟨w.heap.size, 0 + j, none⟩) hx5).trans (hS3.2 j hj)⟩
    refine x_show' rfl (fun K hK => ?_)
    go_simp
    refine hK _ _ hS3 ?_
    clear hK K
    refine x_show rfl (exec_append_of hrun rfl rfl) hS5 ?_
    obtain ⟨va, vn, vc, rfl⟩ := LOut.shape hO5
    have hblk5 := hb5.trans h3.blk
    have d5 := cell_of (o := 5) hblk5 rfl
    have f5 := free_of (o := 5) hblk5
    have hM : Mod (fun x => x = b ∨ (Value.slice wa wn wc).ownBlock = some x) w (w5.setCell ⟨b, 5, none⟩ (.slice va vn vc)) :=
      ((((Mod.of_below ((HB2.out.drew).alloc (by have := HB2.out.size; exact this) (.cells #[.int .i64 i, .int .i64 g] 39))).mono (T := fun x => x = b ∨ (Value.slice wa wn wc).ownBlock = some x) fun x hx hh => absurd hx (Nat.not_lt.2 hh)).grown hg5 fun k hk _ => .inr hk).setCell ⟨b, 5, none⟩ _ fun _ => .inl rfl)
    have hown : ∀ r, (Value.slice va vn vc).ownBlock = some r → (Value.slice wa wn wc).ownBlock = some r ∨ w.heap.size ≤ r := fun r hr => by
      rcases hl5 with e | e
      · exact .inl (e ▸ hr)
      · rw [e] at hr
        cases hr
        exact .inr (Nat.le_of_lt hltx3)
    have hne5 : ∀ r, (Value.slice va vn vc).ownBlock = some r → r ≠ b := fun r hr => by
      rcases hown r hr with e | e
      · exact (HH.out.own r e).1
      · omega
    have hF := HH.out.rewant (w' := w5.setCell ⟨b, 5, none⟩ (.slice va vn vc)) (wv' := .slice va vn vc) (W' := W ++ [(i, g)]) (heap_setCell_at hblk5) hM (hO5.kept (by simp [World.setCell]) fun r hr => heap_setCell_ne (a := ⟨b, 5, none⟩) (hne5 r hr)) hown
    have HF := Lib.hid hF
    have HM := Lib.hid hM
    have HOWN := Lib.hid hown
    clear hF hM hown hne5 hl5 hg5 hrun hO5 hb5 hx5 hS5 hS3 hlit h3 hS2 hblk5
    iterate 2 (refine x_take rfl (fun K hK => ?_); go_simp; refine hK _ ?_; clear hK K)
    refine x_exec' rfl (fun K hK => ?_)
    go_simp
    refine hK _ _ ?_
    clear hK K d5 f5
    refine x_nil ?_
    go_wp2
    go_ret
    exact ⟨rfl, ⟨_, HF.out, HOWN.out⟩, HM.out⟩
/-! ### Ack -/
theorem hack_any (h : HAt w b m lb ph se bo L clk G wv W t u) (s : Int) (hs : 0 ≤ s) : Calls Try.prog 28 #[.pointer (some ⟨b, 0, none⟩), .int .u64 s] w
    fun e w' => (∃ c : Int, e = .returned (.int .i64 c)) ∧ (∃ u', HAt w' b m lb ph se bo L clk G wv W t u') ∧ Mod (fun x => x = lb) w w' := by
  have c0 := h.c0
  have HH := Lib.hid h
  by_cases hle : s ≤ 1099511627775
  · obtain ⟨n, rfl⟩ := Int.eq_ofNat_of_zero_le hs
    have hack := ack_ok w lb t u h.lease n (by omega)
    clear h hle
    go_enter Try.func28, Try.ntmps28
    go_wp2_with (first
      | (go_at_call 30; refine (ok_any _ b lb c0).mono ?_; rintro e w ⟨rfl, rfl⟩)
      | fail)
    refine hack.mono ?_
    rintro e w2 ⟨rfl, hl2, hm2⟩
    have hA := HH.out
    have h2 : HAt w2 b m lb ph se bo L clk G wv W t (max u (n + t)) := ⟨hm2.heap hA.blk (fun e => hA.bl e), hl2, hm2.heap hA.map (fun e => hA.ml e), hA.wf, hA.get, hA.wants.kept hm2.size fun r hr => hm2.block r (hA.wants.lt hr) (fun e => (hA.own r hr).2.2 e), hA.bm, hA.bl, hA.ml, hA.own⟩
    have H2 := Lib.hid h2
    have HM := Lib.hid hm2
    clear h2 hm2 hA hl2
    go_wp2
    go_ret
    exact ⟨⟨_, rfl⟩, ⟨_, H2.out⟩, HM.out⟩
  · have hack := ack_late w lb t u h.lease s (by omega)
    clear h hle
    go_enter Try.func28, Try.ntmps28
    go_wp2_with (first
      | (go_at_call 30; refine (ok_any _ b lb c0).mono ?_; rintro e w ⟨rfl, rfl⟩)
      | fail)
    refine hack.mono ?_
    rintro e w ⟨rfl, rfl⟩
    go_wp2
    go_ret
    exact ⟨⟨_, rfl⟩, ⟨_, HH.out⟩, Mod.refl _ _⟩
end
end Go.Proofs.Ythckjciblngaaaa
