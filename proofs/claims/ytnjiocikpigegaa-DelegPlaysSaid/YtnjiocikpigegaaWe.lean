/- Drop, DropFile walked. -/
import Derived.Test.YtnjiocikpigegaaWd
namespace Go.Proofs.Ytnjiocikpigegaa
open Go.RowKit Go.Tn Go.Tn.Mo

theorem drop_out (w : World) (b m clk : Nat) (L : Ents Fi) (M : Fi → Nat) (h : TabAt w b m L clk M) (i g client : Int) (hc : client < 0 ∨ 8 ≤ client) : Calls Try.prog 11 #[.pointer (some ⟨b, 0, none⟩), .agg #[.int .i64 i, .int .i64 g], .int .i64 client] w
    fun e w' => e = .returned (.int .i64 11) ∧ Below w.heap.size w w' := by
  have hW : Below w.heap.size w (w.alloc (.cells #[.int .i64 i, .int .i64 g] 24)) := (Below.refl _ _).alloc (Nat.le_refl _) _
  have h1 := h.below hW h.b_lt h.m_lt
  have c0 := h1.c0
  have nmap := fun w => run_eql_map_nil (P := Try.prog) w 52 24 58 (some m) Try.underlying52
  go_enter Try.func11, Try.ntmps11
  go_wp2_with fail
  refine (mode_no _ _ i g client hc).mono ?_
  rintro e w2 ⟨rfl, hb2⟩
  go_wp2
  go_ret
  exact ⟨rfl, hW.trans (hb2.mono (by simp))⟩
theorem drop_none (w : World) (b m clk : Nat) (L : Ents Fi) (M : Fi → Nat) (h : TabAt w b m L clk M) (i g : Int) (c : Nat) (hc : c < 8) (h0 : mo (M (i, g)) c = 0) : Calls Try.prog 11 #[.pointer (some ⟨b, 0, none⟩), .agg #[.int .i64 i, .int .i64 g], .int .i64 c] w
    fun e w' => e = .returned (.int .i64 11) ∧ Below w.heap.size w w' := by
  have hW : Below w.heap.size w (w.alloc (.cells #[.int .i64 i, .int .i64 g] 24)) := (Below.refl _ _).alloc (Nat.le_refl _) _
  have h1 := h.below hW h.b_lt h.m_lt
  have c0 := h1.c0
  have nmap := fun w => run_eql_map_nil (P := Try.prog) w 52 24 58 (some m) Try.underlying52
  have hmode := mode_yes _ _ M h1.v i g c hc
  rw [h0] at hmode
  clear h0
  go_enter Try.func11, Try.ntmps11
  go_wp2_with fail
  refine hmode.mono ?_
  rintro e w2 ⟨rfl, hb2⟩
  go_wp2
  go_ret
  exact ⟨rfl, hW.trans (hb2.mono (by simp))⟩

set_option maxHeartbeats 4000000 in
theorem drop_ok (w : World) (b m clk : Nat) (L : Ents Fi) (M : Fi → Nat) (h : TabAt w b m L clk M) (i g : Int) (c : Nat) (hc : c < 8) (h0 : mo (M (i, g)) c ≠ 0) : Calls Try.prog 11 #[.pointer (some ⟨b, 0, none⟩), .agg #[.int .i64 i, .int .i64 g], .int .i64 c] w
    fun e w' => e = .returned (.int .i64 0) ∧ (∃ L' clk', TabAt w' b m L' clk' (setM M (i, g) (wi (M (i, g)) c 0))) ∧ Mod (fun x => x = m) w w' := by
  obtain ⟨w1, hw1⟩ : ∃ w1, w.alloc (.cells #[.int .i64 i, .int .i64 g] 24) = w1 := ⟨_, rfl⟩
  have hW : Below w.heap.size w w1 := by rw [← hw1]; exact (Below.refl _ _).alloc (Nat.le_refl _) _
  have hsz1 : w1.heap.size = w.heap.size + 1 := by rw [← hw1]; simp
  have hbox : Lies w1 w.heap.size 0 #[.int .i64 i, .int .i64 g] := by rw [← hw1]; exact box_file
  have h1 := h.below hW h.b_lt h.m_lt
  have hmw := h.m_lt
  have c0 := h1.c0
  have nmap := fun w => run_eql_map_nil (P := Try.prog) w 52 24 58 (some m) Try.underlying52
  have hmode := mode_yes _ _ M h1.v i g c hc
  have q0 : w1.cell? ⟨w.heap.size, 0, none⟩ = some (.int .i64 i) := hbox 0 (by simp)
  have q1 : w1.cell? ⟨w.heap.size, 1, none⟩ = some (.int .i64 g) := hbox 1 (by simp)
  have H1 := Lib.hid hw1
  have hs1 := Lib.hid hsz1
  have HB := Lib.hid hbox
  have hlt := wi_lt (h.lt (i, g)) hc (d := 0) (by decide)
  have htwo := wi_two (h.two (i, g)) hc (d := 0) (by decide)
  have HM := Lib.hid hlt
  have HT := Lib.hid htwo
  have hz : (((mo (M (i, g)) c : Nat) : Int) == 0) = false := by simpa using (show ¬ ((mo (M (i, g)) c : Nat) : Int) = 0 by omega)
  generalize ((mo (M (i, g)) c : Nat) : Int) = dd at *
  clear h0 hw1 hsz1 hbox hlt htwo
  go_enter Try.func11, Try.ntmps11
  go_upto_region 1 with (fail)
  rw [H1.out]
  go_wp2_with fail
  refine hmode.mono ?_
  rintro e w2 ⟨rfl, hb2⟩
  have h2 := h1.below hb2 h1.b_lt h1.m_lt
  have hbox2 : Lies w2 w.heap.size 0 #[.int .i64 i, .int .i64 g] := HB.out.below' hb2 (by have := hs1.out; omega)
  clear c0 q0 q1 hmode
  go_upto_region 5 with (fail)
  refine wp_region_x (fun w' => Lies w' w.heap.size 0 #[.int .i64 i, .int .i64 g]) [(0, 1), (1, 0), (2, 1), (3, 0), (5, 1), (4, 2), (6, 2), (7, 2)] (by kernel_rfl) (by kernel_rfl) (by intro d v c a w h; cases d <;> exact h) ?_
  iterate 1 (refine x_take rfl (fun K hK => ?_); go_simp; refine hK _ ?_; clear hK K)
  refine x_read rfl hbox2 (fun w' h => exec_loadA (aggF _ _) rfl h) ?_
  iterate 1 (refine x_take rfl (fun K hK => ?_); go_simp; refine hK _ ?_; clear hK K)
  refine x_read rfl hbox2 (fun w' h => exec_loadA (aggF _ _) rfl h) ?_
  iterate 1 (refine x_take rfl (fun K hK => ?_); go_simp; refine hK _ ?_; clear hK K)
  have h2d : TabAt w2.drew b m L clk M := ⟨h2.blk, h2.map, h2.wf, h2.ne, h2.get, h2.lt, h2.two⟩
  refine x_show' rfl (fun K hK => ?_)
  go_simp
  refine (of_any _ _ M h2d.v i g).mono ?_
  rintro e w4 ⟨rfl, hb4⟩
  have hbox4 : Lies w4 w.heap.size 0 #[.int .i64 i, .int .i64 g] := (show Lies w2.drew w.heap.size 0 _ from hbox2).below' hb4 (by show w.heap.size < w2.heap.size; have := hs1.out; have := hb2.size; omega)
  have h4 := h2d.below hb4 h2d.b_lt h2d.m_lt
  refine hK _ _ hbox4 ?_
  clear hK K
  refine x_show' rfl (fun K hK => ?_)
  go_simp
  refine (mWith_any _ _ c 0 (h4.lt (i, g)) hc (by decide)).mono ?_
  rintro e w5 ⟨rfl, nd, rfl⟩
  refine hK _ _ (show Lies (w4.drewN nd) w.heap.size 0 _ from hbox4) ?_
  clear hK K
  have h5 : TabAt (w4.drewN nd) b m L clk M := ⟨h4.blk, h4.map, h4.wf, h4.ne, h4.get, h4.lt, h4.two⟩
  refine x_show' rfl (fun K hK => ?_)
  go_simp
  refine (set_any _ b m clk L M h5 i g (wi (M (i, g)) c 0) HM.out HT.out).mono ?_
  rintro e w6 ⟨rfl, ht6, hm6⟩
  refine hK _ _ (fun j hj => ?_) ?_
  · refine Eq.trans ?_ (hbox4 j hj)
    have e6 : w6.heap[w.heap.size]? = w4.heap[w.heap.size]? := hm6.block w.heap.size (by show w.heap.size < w4.heap.size; have := hs1.out; have := hb2.size; have := hb4.size; simp at *; omega) (by omega)
    show (w6.cell? ⟨w.heap.size, 0 + j, none⟩) = _
    simp only [World.cell?, e6]
  clear hK K
  refine x_nil ?_
  go_wp2
  go_ret
  refine ⟨rfl, ht6, ?_⟩
  have s1 := hs1.out
  have hb24 : Below w2.heap.size w2 w4 := (Below.refl w2.heap.size w2).drew.trans hb4
  have hbw4 : Below w.heap.size w w4 := hW.trans ((hb2.trans (hb24.mono hb2.size)).mono (by omega))
  have hmw4 : Mod (fun x => x = m) w w4 := (Mod.of_below hbw4).mono fun x hx h => absurd hx (Nat.not_lt.2 h)
  exact (hmw4.drewN nd).trans hm6 (fun _ h => h) (fun _ _ h => h)

set_option maxHeartbeats 1000000 in
theorem dropFile_any (w : World) (b m clk : Nat) (L : Ents Fi) (M : Fi → Nat) (h : TabAt w b m L clk M) (i g : Int) : Calls Try.prog 21 #[.pointer (some ⟨b, 0, none⟩), .agg #[.int .i64 i, .int .i64 g]] w
    fun e w' => (∃ v, e = .returned v ∧ IntSl w' v (ints (holdL (M (i, g)) 8))) ∧ (∃ L' clk', TabAt w' b m L' clk' (setM M (i, g) 0)) ∧ Mod (fun x => x = m) w w' := by
  obtain ⟨w1, hw1⟩ : ∃ w1, w.alloc (.cells #[.int .i64 i, .int .i64 g] 24) = w1 := ⟨_, rfl⟩
  have hW : Below w.heap.size w w1 := by rw [← hw1]; exact (Below.refl _ _).alloc (Nat.le_refl _) _
  have hsz1 : w1.heap.size = w.heap.size + 1 := by rw [← hw1]; simp
  have hbox : Lies w1 w.heap.size 0 #[.int .i64 i, .int .i64 g] := by rw [← hw1]; exact box_file
  have h1 := h.below hW h.b_lt h.m_lt
  have hmw := h.m_lt
  have hH := holders_any w1 _ M h1.v i g
  have q0 : w1.cell? ⟨w.heap.size, 0, none⟩ = some (.int .i64 i) := hbox 0 (by simp)
  have q1 : w1.cell? ⟨w.heap.size, 1, none⟩ = some (.int .i64 g) := hbox 1 (by simp)
  have H1 := Lib.hid hw1
  have hs1 := Lib.hid hsz1
  have HB := Lib.hid hbox
  clear hw1 hsz1 hbox
  by_cases hz : M (i, g) = 0
  · have hnil : holdL (M (i, g)) 8 = [] := by
      rw [hz]
      decide
    rw [hnil] at hH ⊢
    go_enter Try.func21, Try.ntmps21
    go_upto_region 1 with (fail)
    rw [H1.out]
    go_wp2_with fail
    refine hH.mono ?_
    rintro e w2 ⟨⟨v, rfl, hO⟩, hb2⟩
    have hsl := hO.sl elI.len
    have hsl0 := hsl
    obtain ⟨ao, cap, rfl, hx⟩ := hsl
    clear hx hO
    have hle : ((ints []).length : Int) = 0 := rfl
    go_wp2
    go_ret
    have hbw : Below w.heap.size w w2 := hW.trans (hb2.mono (by have := hs1.out; omega))
    have h2 := h.below hbw h.b_lt h.m_lt
    refine ⟨⟨_, rfl, hsl0⟩, ⟨L, clk, h2.blk, h2.map, h2.wf, h2.ne, fun f => ?_, fun f => ?_, fun f c hc => ?_⟩, (Mod.of_below hbw).mono fun x hx h => absurd hx (Nat.not_lt.2 h)⟩
    · rw [h2.get]
      unfold setM
      by_cases hf : f = (i, g)
      · simp [hf, hz]
      · simp [hf]
    · unfold setM
      split
      · decide
      · exact h2.lt f
    · unfold setM
      split
      · simp [mo]
      · exact h2.two f c hc
  · have hpos : 0 < (ints (holdL (M (i, g)) 8)).length := by
      rw [ints_len]
      refine List.length_pos_iff.2 fun hn => hz ?_
      refine (mo_zero _ (h.lt _)).2 fun c hc => ?_
      refine Decidable.byContradiction fun hne => ?_
      have : c ∈ holdL (M (i, g)) 8 := List.mem_filter.2 ⟨List.mem_range.2 hc, by simpa using hne⟩
      rw [hn] at this
      cases this
    have hpos' : (0 : Int) < (((ints (holdL (M (i, g)) 8)).length : Nat) : Int) := by omega
    generalize ints (holdL (M (i, g)) 8) = os at *
    clear hpos hz
    go_enter Try.func21, Try.ntmps21
    go_upto_region 1 with (fail)
    rw [H1.out]
    go_wp2_with fail
    refine hH.mono ?_
    rintro e w2 ⟨⟨v, rfl, hO⟩, hb2⟩
    have h2 := h1.below hb2 h1.b_lt h1.m_lt
    have hbox2 : Lies w2 w.heap.size 0 #[.int .i64 i, .int .i64 g] := HB.out.below' hb2 (by have := hs1.out; omega)
    have hbw : Below w.heap.size w w2 := hW.trans (hb2.mono (by have := hs1.out; omega))
    have hown := hO.lo
    have hsl := hO.sl elI.len
    obtain ⟨ao, cap, rfl, hx⟩ := hsl
    have HX := Lib.hid hx
    have HO := Lib.hid hown
    have HE := Lib.hid h2
    have c0 := h2.c0
    have hmap := h2.map
    clear hx hO hown q0 q1 h2
    go_upto_region 3 with (fail)
    refine wp_region_x (fun w' => w'.cell? ⟨b, 0, none⟩ = some (.map (some m)) ∧ w'.heap[m]? = some (.map (ents encF L) clk) ∧ Lies w' w.heap.size 0 #[.int .i64 i, .int .i64 g]) [(0, 1), (1, 1), (2, 1), (3, 0), (4, 0), (5, 3)] (by kernel_rfl) (by kernel_rfl) (by intro d v c a w h; cases d <;> exact h) ?_
    iterate 3 (refine x_take rfl (fun K hK => ?_); go_simp; refine hK _ ?_; clear hK K)
    refine x_read rfl ⟨c0, hmap, hbox2⟩ (fun w' h => exec_load1 scalarMap rfl h.1) ?_
    refine x_read rfl ⟨c0, hmap, hbox2⟩ (fun w' h => exec_loadA (aggF _ _) rfl h.2.2) ?_
    refine x_exec rfl (exec_delete (w := w2.drew) keyF Try.underlying52 hmap rfl (i, g) rfl) ?_
    refine x_nil ?_
    go_wp2
    go_ret
    have h2 := HE.out
    have hmod := setObjW_mod (w := w2.drew) m (.map (ents encF (del (i, g) L)) clk)
    refine ⟨⟨_, rfl, ao, cap, rfl, HX.out.1, HX.out.2.1, fun h0 => ?_⟩, ⟨del (i, g) L, clk, (setObjW_ne h2.ne).trans h2.blk, setObjW_at (lt_of_block h2.map), h2.wf.del, h2.ne, fun f => ?_, fun f => ?_, fun f c hc => ?_⟩, (((Mod.of_below hbw).mono fun x hx h => absurd hx (Nat.not_lt.2 h) : Mod (fun x => x = m) w w2)).drew.trans hmod (fun _ h => h) (fun _ _ h => h)⟩
    · obtain ⟨bb, off, hao, hbb, hcs⟩ := HX.out.2.2 h0
      have hlo := HO.out bb (by rw [hao]; rfl)
      refine ⟨bb, off, hao, by simpa using hbb, fun j x hj => ?_⟩
      have hl := hcs j x hj
      intro q hq
      refine Eq.trans ?_ (hl q hq)
      have e6 := hmod.block bb (by simpa using hbb) (by have := hs1.out; omega)
      simp only [World.cell?, e6]
      rfl
    · rw [get_del h2.wf, h2.get]
      unfold setM
      by_cases hf : f = (i, g)
      · simp [hf]
      · simp [hf]
    · unfold setM
      split
      · decide
      · exact h2.lt f
    · unfold setM
      split
      · simp [mo]
      · exact h2.two f c hc
end Go.Proofs.Ytnjiocikpigegaa
