/- Grant, Drop, DropFile walked. -/
import Derived.Test.YtnjiocikpigegaaWc
namespace Go.Proofs.Ytnjiocikpigegaa
open Go.RowKit Go.Tn Go.Tn.Mo

theorem wi_two {m : Nat} (h : ∀ c, c < 8 → mo m c ≤ 2) {c d : Nat} (hc : c < 8) (hd : d < 3) : ∀ c', c' < 8 → mo (wi m c d) c' ≤ 2 := fun c' hc' => by
  rw [mo_wi m hc hc' hd]
  split
  · omega
  · exact h c' hc'

theorem exec_max {P : Program} {ρ : Operand → Value} {dst : Option Tmp} {ty : TypeId} {pos : String} {after : Array Edge} {g : Option (Nat × Bool)} {ats : Array TypeId} {x y : Operand} {w : World} {k : IntKind} {a b z : Int} (hx : ρ x = .int k a) (hy : ρ y = .int k b) (hz : max a b = z) :
    (execOp ρ ⟨dst, .call { callee := .builtin .max, args := #[x, y], argTypes := ats }, ty, pos, after, g⟩).run P w = .ok (.value (.int k z)) w := by
  have hz' : (if b > a then b else a) = z := by split <;> omega
  simp [execOp, resolve, invoke, builtin, Builtin.max_, Builtin.max2, hx, hy, hz', go_sem]

theorem grant_arg (w : World) (b m clk : Nat) (L : Ents Fi) (M : Fi → Nat) (h : TabAt w b m L clk M) (i g client mode : Int) (hb : client < 0 ∨ 8 ≤ client ∨ (mode ≠ 1 ∧ mode ≠ 2)) : Calls Try.prog 9 #[.pointer (some ⟨b, 0, none⟩), .agg #[.int .i64 i, .int .i64 g], .int .i64 client, .int .i64 mode] w
    fun e w' => e = .returned (.int .i64 2) ∧ Below w.heap.size w w' := by
  have hW : Below w.heap.size w (w.alloc (.cells #[.int .i64 i, .int .i64 g] 24)) := (Below.refl _ _).alloc (Nat.le_refl _) _
  have h1 := h.below hW h.b_lt h.m_lt
  have c0 := h1.c0
  have nmap := fun w => run_eql_map_nil (P := Try.prog) w 52 24 58 (some m) Try.underlying52
  by_cases hc : client < 0 ∨ 8 ≤ client
  · clear hb
    go_enter Try.func9, Try.ntmps9
    go_wp2_with fail
    refine (in_no _ client hc).mono ?_
    rintro e w' ⟨rfl, hw2⟩
    obtain rfl := hw2.symm
    go_wp2
    go_ret
    exact ⟨rfl, hW⟩
  · obtain ⟨c, rfl⟩ : ∃ c : Nat, client = (c : Int) := ⟨client.toNat, by omega⟩
    have hc8 : c < 8 := by omega
    have hm : (mode == 1) = false ∧ (mode == 2) = false := by
      have : mode ≠ 1 ∧ mode ≠ 2 := by omega
      simpa using this
    obtain ⟨m1, m2⟩ := hm
    have m1' : (mode != 1) = true := by simp [bne, m1]
    have m2' : (mode != 2) = true := by simp [bne, m2]
    clear hb hc
    go_enter Try.func9, Try.ntmps9
    go_wp2_with fail
    refine (in_yes _ c hc8).mono ?_
    rintro e w' ⟨rfl, hw2⟩
    obtain rfl := hw2.symm
    go_wp2
    go_ret
    exact ⟨rfl, hW⟩

theorem grant_busy (w : World) (b m clk : Nat) (L : Ents Fi) (M : Fi → Nat) (h : TabAt w b m L clk M) (i g : Int) (c d : Nat) (hc : c < 8) (hd : d = 1 ∨ d = 2) (ho : otherL (M (i, g)) c d ≠ []) : Calls Try.prog 9 #[.pointer (some ⟨b, 0, none⟩), .agg #[.int .i64 i, .int .i64 g], .int .i64 c, .int .i64 d] w
    fun e w' => e = .returned (.int .i64 21) ∧ Below w.heap.size w w' := by
  have hW : Below w.heap.size w (w.alloc (.cells #[.int .i64 i, .int .i64 g] 24)) := (Below.refl _ _).alloc (Nat.le_refl _) _
  have h1 := h.below hW h.b_lt h.m_lt
  have c0 := h1.c0
  have nmap := fun w => run_eql_map_nil (P := Try.prog) w 52 24 58 (some m) Try.underlying52
  have hoth := others_any _ _ M h1.v i g c d
  have hpos : 0 < (ints (otherL (M (i, g)) c d)).length := by
    rw [ints_len]
    exact List.length_pos_iff.2 ho
  have hpos' : (0 : Int) < (((ints (otherL (M (i, g)) c d)).length : Nat) : Int) := by omega
  generalize ints (otherL (M (i, g)) c d) = os at *
  clear ho hpos
  rcases hd with rfl | rfl
  all_goals
    go_enter Try.func9, Try.ntmps9
    go_wp2_with fail
    refine (in_yes _ c hc).mono ?_
    rintro e w' ⟨rfl, hw2⟩
    obtain rfl := hw2.symm
    go_wp2_with fail
    refine hoth.mono ?_
    rintro e w2 ⟨⟨v, rfl, hO⟩, hb2⟩
    obtain ⟨ao, cap, rfl, hx⟩ := hO.sl elI.len
    clear hx hO
    go_wp2
    go_ret
    exact ⟨rfl, hW.trans (hb2.mono (by simp))⟩

set_option maxHeartbeats 16000000 in
theorem grant_ok (w : World) (b m clk : Nat) (L : Ents Fi) (M : Fi → Nat) (h : TabAt w b m L clk M) (i g : Int) (c d : Nat) (hc : c < 8) (hd : d = 1 ∨ d = 2) (ho : otherL (M (i, g)) c d = []) : Calls Try.prog 9 #[.pointer (some ⟨b, 0, none⟩), .agg #[.int .i64 i, .int .i64 g], .int .i64 c, .int .i64 d] w
    fun e w' => e = .returned (.int .i64 0) ∧ (∃ L' clk', TabAt w' b m L' clk' (setM M (i, g) (wi (M (i, g)) c (max d (mo (M (i, g)) c))))) ∧ Mod (fun x => x = m) w w' := by
  obtain ⟨w1, hw1⟩ : ∃ w1, w.alloc (.cells #[.int .i64 i, .int .i64 g] 24) = w1 := ⟨_, rfl⟩
  have hW : Below w.heap.size w w1 := by rw [← hw1]; exact (Below.refl _ _).alloc (Nat.le_refl _) _
  have hWm : Mod (fun x => x = m) w w1 := by rw [← hw1]; exact (Mod.refl _ _).alloc _
  have hsz1 : w1.heap.size = w.heap.size + 1 := by rw [← hw1]; simp
  have hbox : Lies w1 w.heap.size 0 #[.int .i64 i, .int .i64 g] := by rw [← hw1]; exact box_file
  have h1 := h.below hW h.b_lt h.m_lt
  have hmw := h.m_lt
  have c0 := h1.c0
  have nmap := fun w => run_eql_map_nil (P := Try.prog) w 52 24 58 (some m) Try.underlying52
  have hoth := others_any _ _ M h1.v i g c d
  rw [ho] at hoth
  have q0 : w1.cell? ⟨w.heap.size, 0, none⟩ = some (.int .i64 i) := hbox 0 (by simp)
  have q1 : w1.cell? ⟨w.heap.size, 1, none⟩ = some (.int .i64 g) := hbox 1 (by simp)
  have H1 := Lib.hid hw1
  have hs1 := Lib.hid hsz1
  have HB := Lib.hid hbox
  obtain ⟨x, hx⟩ : ∃ x, mo (M (i, g)) c = x := ⟨_, rfl⟩
  obtain ⟨y, hy⟩ : ∃ y, max d x = y := ⟨_, rfl⟩
  have hx2 : x ≤ 2 := by rw [← hx]; exact h.two _ _ hc
  have hy3 : y < 3 := by omega
  have hy' : max (d : Int) (x : Int) = (y : Int) := by omega
  have hcmp : ((d : Int) ≤ (x : Int) ∧ y = x) ∨ ((x : Int) < (d : Int) ∧ y = d) := by omega
  have hlt := wi_lt (h.lt (i, g)) hc hy3
  have htwo := wi_two (h.two (i, g)) hc hy3
  rw [hx, hy]
  have HX := Lib.hid hx
  have HM := Lib.hid hlt
  have HT := Lib.hid htwo
  have HY := Lib.hid hy'
  have HC := Lib.hid hcmp
  clear ho hw1 hsz1 hx hy hx2 hbox hlt htwo hy' hcmp
  rcases hd with rfl | rfl
  all_goals
    go_enter Try.func9, Try.ntmps9
    go_upto_region 1 with (fail)
    rw [H1.out]
    go_wp2_with fail
    refine (in_yes _ c hc).mono ?_
    rintro e w' ⟨rfl, hw2⟩
    obtain rfl := hw2.symm
    clear hw2
    go_wp2_with fail
    refine hoth.mono ?_
    rintro e w2 ⟨⟨v, rfl, hO⟩, hb2⟩
    have h2 := h1.below hb2 h1.b_lt h1.m_lt
    have hbox2 : Lies w2 w.heap.size 0 #[.int .i64 i, .int .i64 g] := HB.out.below' hb2 (by have := hs1.out; omega)
    obtain ⟨ao, cap, rfl, hxx⟩ := hO.sl elI.len
    clear hxx hO c0 q0 q1 hoth
    go_upto_region 7 with (fail)
    refine wp_region_x (fun w' => Lies w' w.heap.size 0 #[.int .i64 i, .int .i64 g]) [(0, 1), (1, 0), (2, 1), (3, 0), (5, 1), (6, 1), (7, 1), (8, 0), (9, 1), (4, 2), (10, 2), (11, 1), (12, 2), (13, 2)] (by kernel_rfl) (by kernel_rfl) (by intro d v c a w h; cases d <;> exact h) ?_
    iterate 1 (refine x_take rfl (fun K hK => ?_); go_simp; refine hK _ ?_; clear hK K)
    refine x_read rfl hbox2 (fun w' h => exec_loadA (aggF _ _) rfl h) ?_
    iterate 1 (refine x_take rfl (fun K hK => ?_); go_simp; refine hK _ ?_; clear hK K)
    refine x_read rfl hbox2 (fun w' h => exec_loadA (aggF _ _) rfl h) ?_
    iterate 3 (refine x_take rfl (fun K hK => ?_); go_simp; refine hK _ ?_; clear hK K)
    refine x_read rfl hbox2 (fun w' h => exec_loadA (aggF _ _) rfl h) ?_
    iterate 1 (refine x_take rfl (fun K hK => ?_); go_simp; refine hK _ ?_; clear hK K)
    have h2d : TabAt w2.drew b m L clk M := ⟨h2.blk, h2.map, h2.wf, h2.ne, h2.get, h2.lt, h2.two⟩
    refine x_show' rfl (fun K hK => ?_)
    go_simp
    refine (of_any _ _ M h2d.v i g).mono ?_
    rintro e w3 ⟨rfl, hb3⟩
    have hbox3 : Lies w3 w.heap.size 0 #[.int .i64 i, .int .i64 g] := (show Lies w2.drew w.heap.size 0 _ from hbox2).below' hb3 (by show w.heap.size < w2.heap.size; have := hs1.out; have := hb2.size; omega)
    have h3 := h2d.below hb3 h2d.b_lt h2d.m_lt
    refine hK _ _ hbox3 ?_
    clear hK K
    refine x_show' rfl (fun K hK => ?_)
    go_simp
    refine (mode_yes _ _ M h3.v i g c hc).mono ?_
    rintro e w4 ⟨rfl, hb4⟩
    have hbox4 : Lies w4 w.heap.size 0 #[.int .i64 i, .int .i64 g] := hbox3.below' hb4 (by have := hs1.out; have := hb2.size; have := hb3.size; simp at this; omega)
    have h4 := h3.below hb4 h3.b_lt h3.m_lt
    refine hK _ _ hbox4 ?_
    clear hK K
    rw [HX.out]
    refine x_take rfl (fun K hK => ⟨_, fun w' => exec_max (z := (y : Int)) rfl rfl HY.out, hK _ ?_⟩)
    clear hK K HC HY
    refine x_show' rfl (fun K hK => ?_)
    go_simp
    refine (mWith_any _ _ c y (h4.lt (i, g)) hc hy3).mono ?_
    rintro e w5 ⟨rfl, nd, rfl⟩
    refine hK _ _ (show Lies (w4.drewN nd) w.heap.size 0 _ from hbox4) ?_
    clear hK K
    have h5 : TabAt (w4.drewN nd) b m L clk M := ⟨h4.blk, h4.map, h4.wf, h4.ne, h4.get, h4.lt, h4.two⟩
    refine x_show' rfl (fun K hK => ?_)
    go_simp
    refine (set_any _ b m clk L M h5 i g (wi (M (i, g)) c y) HM.out HT.out).mono ?_
    rintro e w6 ⟨rfl, ht6, hm6⟩
    refine hK _ _ (fun j hj => ?_) ?_
    · refine Eq.trans ?_ (hbox4 j hj)
      have e6 : w6.heap[w.heap.size]? = w4.heap[w.heap.size]? := hm6.block w.heap.size (by show w.heap.size < w4.heap.size; have := hs1.out; have := hb2.size; have := hb3.size; have := hb4.size; simp at *; omega) (by omega)
      show (w6.cell? ⟨w.heap.size, 0 + j, none⟩) = _
      simp only [World.cell?, e6]
    clear hK K
    refine x_nil ?_
    go_wp2
    go_ret
    refine ⟨rfl, ht6, ?_⟩
    have s1 := hs1.out
    have hb23 : Below w2.heap.size w2 w3 := (Below.refl w2.heap.size w2).drew.trans hb3
    have hbw4 : Below w.heap.size w w4 := hW.trans ((hb2.trans ((hb23.trans (hb4.mono hb23.size)).mono hb2.size)).mono (by omega))
    have hmw4 : Mod (fun x => x = m) w w4 := (Mod.of_below hbw4).mono fun x hx h => absurd hx (Nat.not_lt.2 h)
    exact (hmw4.drewN nd).trans hm6 (fun _ h => h) (fun _ _ h => h)
end Go.Proofs.Ytnjiocikpigegaa
