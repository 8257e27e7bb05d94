/- The table of delegations in memory; walks of of, set, Mode, New. -/
import Derived.Test.YtnjiocikpigegaaWa
import Derived.Test.YtnjiocikpigegaaSt
import Derived.WalkSpells
namespace Go.Proofs.Ytnjiocikpigegaa
open Go.RowKit Go.Tn Go.Tn.Mo

/-- A file. -/
abbrev Fi := Int × Int
def encF (f : Fi) : Value := .agg #[.int .i64 f.1, .int .i64 f.2]
theorem keyF : KeyOK Try.prog 24 encF where
  now := ⟨_, Try.underlying24, fun a b => .inl rfl⟩
  eq := fun w a b => by
    obtain ⟨i, g⟩ := a
    obtain ⟨i', g'⟩ := b
    have : decide (((i, g) : Fi) = (i', g')) = (i == i' && g == g') := by
      rw [Bool.eq_iff_iff]; simp
    rw [this]
    simp [encF, Op.equal, Op.maxDepth, go_sem]
    repeat' split
    all_goals simp_all
  chk := fun e w a => by
    have h : ∀ n, (Instr.checkKey e (n + 4) 24 (encF a)).run Try.prog w = .ok () w := fun n => by
      simp [encF, Instr.checkKey, underlying, part, go_sem]
    exact h 9996
  bits := fun a => by simp [encF, Instr.sameBits]
theorem zeroM : ∀ w, (zeroValue 58).run Try.prog w = .ok (.int .u16 0) w := fun w => by kernel_rfl
theorem aggF (i g : Int) : AggT Try.prog 24 (#[.int .i64 i, .int .i64 g] : Array Value).size := ⟨⟨_, Try.underlying24, rfl⟩, by kernel_rfl⟩
theorem scalarMap : ScalarT Try.prog 52 := ⟨⟨_, Try.underlying52, rfl⟩⟩

/-- The table: at block b, its map at block m; M: what all have of a file. -/
structure TabAt (w : World) (b m : Nat) (L : Ents Fi) (clk : Nat) (M : Fi → Nat) : Prop where
  blk : w.heap[b]? = some (.cells #[.map (some m)] 54 (0, 0))
  map : w.heap[m]? = some (.map (ents encF L) clk)
  wf : WF L clk
  ne : b ≠ m
  get : ∀ f, get f L = if M f = 0 then none else some (.int .u16 (M f))
  lt : ∀ f, M f < 65536
  two : ∀ f c, c < 8 → mo (M f) c ≤ 2
theorem TabAt.mod {w w' : World} {b m clk : Nat} {L : Ents Fi} {M : Fi → Nat} {S : Nat → Prop} (h : TabAt w b m L clk M) (hm : Mod S w w') (hS : ¬ S b) (hS' : ¬ S m) : TabAt w' b m L clk M :=
  ⟨hm.heap h.blk hS, hm.heap h.map hS', h.wf, h.ne, h.get, h.lt, h.two⟩
theorem TabAt.below {w w' : World} {b m clk B : Nat} {L : Ents Fi} {M : Fi → Nat} (h : TabAt w b m L clk M) (hm : Below B w w') (hb : b < B) (hm' : m < B) : TabAt w' b m L clk M :=
  ⟨(hm.block b hb).trans h.blk, (hm.block m hm').trans h.map, h.wf, h.ne, h.get, h.lt, h.two⟩
theorem TabAt.b_lt {w : World} {b m clk : Nat} {L : Ents Fi} {M : Fi → Nat} (h : TabAt w b m L clk M) : b < w.heap.size := lt_of_block h.blk
theorem TabAt.m_lt {w : World} {b m clk : Nat} {L : Ents Fi} {M : Fi → Nat} (h : TabAt w b m L clk M) : m < w.heap.size := lt_of_block h.map
theorem TabAt.b_ltn {w : World} {b m clk : Nat} {L : Ents Fi} {M : Fi → Nat} (h : TabAt w b m L clk M) : b < w.heap.size := h.b_lt
theorem TabAt.c0 {w : World} {b m clk : Nat} {L : Ents Fi} {M : Fi → Nat} (h : TabAt w b m L clk M) : w.cell? ⟨b, 0, none⟩ = some (.map (some m)) := cell_of h.blk rfl
theorem TabAt.getD {w : World} {b m clk : Nat} {L : Ents Fi} {M : Fi → Nat} (h : TabAt w b m L clk M) (f : Fi) : Go.Tn.getD f L (.int .u16 0) = .int .u16 (M f) := by
  unfold Go.Tn.getD
  rw [h.get]
  split
  · rename_i h0; rw [h0]; rfl
  · rfl

/-- A table, nil or not. -/
def TabV (w : World) (pv : Value) (M : Fi → Nat) : Prop :=
  (pv = .pointer none ∧ M = fun _ => 0) ∨ ∃ b m L clk, pv = .pointer (some ⟨b, 0, none⟩) ∧ TabAt w b m L clk M
theorem TabAt.v {w : World} {b m clk : Nat} {L : Ents Fi} {M : Fi → Nat} (h : TabAt w b m L clk M) : TabV w (.pointer (some ⟨b, 0, none⟩)) M := .inr ⟨b, m, L, clk, rfl, h⟩
theorem TabV.below {w w' : World} {pv : Value} {M : Fi → Nat} (h : TabV w pv M) (hb : Below w.heap.size w w') : TabV w' pv M := by
  rcases h with h | ⟨b, m, L, clk, h1, h2⟩
  · exact .inl h
  · exact .inr ⟨b, m, L, clk, h1, h2.below hb h2.b_lt h2.m_lt⟩
theorem TabV.lt {w : World} {pv : Value} {M : Fi → Nat} (h : TabV w pv M) (f : Fi) : M f < 65536 := by
  rcases h with ⟨_, h⟩ | ⟨b, m, L, clk, h1, h2⟩
  · rw [h]; exact (by decide : 0 < 65536)
  · exact h2.lt f

/-- A box with a file. -/
theorem box_file {w : World} {i g : Int} {T : TypeId} : Lies (w.alloc (.cells #[.int .i64 i, .int .i64 g] T)) w.heap.size 0 #[.int .i64 i, .int .i64 g] := lies_of heap_alloc_at

theorem of_tab (w : World) (b m clk : Nat) (L : Ents Fi) (M : Fi → Nat) (h : TabAt w b m L clk M) (i g : Int) : Calls Try.prog 30 #[.pointer (some ⟨b, 0, none⟩), .agg #[.int .i64 i, .int .i64 g]] w
    fun e w' => e = .returned (.int .u16 (M (i, g))) ∧ Below w.heap.size w w' := by
  have hg := h.getD (i, g)
  have hb : Below w.heap.size w (w.alloc (.cells #[.int .i64 i, .int .i64 g] 24)) := (Below.refl _ _).alloc (Nat.le_refl _) _
  have h1 := h.below hb h.b_lt h.m_lt
  have c0 := h1.c0
  have hmap := h1.map
  have hbox : Lies (w.alloc (.cells #[.int .i64 i, .int .i64 g] 24)) w.heap.size 0 #[.int .i64 i, .int .i64 g] := box_file
  clear h h1
  go_enter Try.func30, Try.ntmps30
  go_upto_region 3 with (fail)
  refine wp_region_x (fun w' => w'.cell? ⟨b, 0, none⟩ = some (.map (some m)) ∧ w'.heap[m]? = some (.map (ents encF L) clk) ∧ Lies w' w.heap.size 0 #[.int .i64 i, .int .i64 g]) [(0, 1), (1, 1), (2, 1), (3, 0), (4, 0), (5, 0), (6, 1)] (by kernel_rfl) (by kernel_rfl) (by intro d v c a w h; cases d <;> exact h) ?_
  iterate 3 (refine x_take rfl (fun K hK => ?_); go_simp; refine hK _ ?_; clear hK K)
  refine x_read rfl ⟨c0, hmap, hbox⟩ (fun w' h => exec_load1 scalarMap rfl h.1) ?_
  refine x_read rfl ⟨c0, hmap, hbox⟩ (fun w' h => exec_loadA (aggF _ _) rfl h.2.2) ?_
  refine x_read rfl ⟨c0, hmap, hbox⟩ (fun w' h => exec_lookup keyF Try.underlying52 zeroM h.2.1 rfl (i, g) rfl) ?_
  rw [hg]
  iterate 1 (refine x_take rfl (fun K hK => ?_); go_simp; refine hK _ ?_; clear hK K)
  refine x_nil ?_
  go_wp2
  go_ret
  exact ⟨rfl, hb.drew⟩

theorem of_any (w : World) (pv : Value) (M : Fi → Nat) (h : TabV w pv M) (i g : Int) : Calls Try.prog 30 #[pv, .agg #[.int .i64 i, .int .i64 g]] w
    fun e w' => e = .returned (.int .u16 (M (i, g))) ∧ Below w.heap.size w w' := by
  rcases h with ⟨rfl, rfl⟩ | ⟨b, m, L, clk, rfl, h⟩
  · have hb : Below w.heap.size w (w.alloc (.cells #[.int .i64 i, .int .i64 g] 24)) := (Below.refl _ _).alloc (Nat.le_refl _) _
    go_enter Try.func30, Try.ntmps30
    go_wp2
    go_ret
    exact ⟨rfl, hb⟩
  · exact of_tab w b m clk L M h i g

theorem mode_yes (w : World) (pv : Value) (M : Fi → Nat) (h : TabV w pv M) (i g : Int) (c : Nat) (hc : c < 8) : Calls Try.prog 12 #[pv, .agg #[.int .i64 i, .int .i64 g], .int .i64 c] w
    fun e w' => e = .returned (.int .i64 (mo (M (i, g)) c)) ∧ Below w.heap.size w w' := by
  have hb : Below w.heap.size w (w.alloc (.cells #[.int .i64 i, .int .i64 g] 24)) := (Below.refl _ _).alloc (Nat.le_refl _) _
  have h1 := h.below hb
  go_enter Try.func12, Try.ntmps12
  go_wp2_with fail
  refine (in_yes _ c hc).mono ?_
  rintro e w' ⟨rfl, hw⟩
  subst hw
  go_wp2_with fail
  refine (of_any _ pv M h1 i g).mono ?_
  rintro e w' ⟨rfl, hb2⟩
  go_wp2_with fail
  refine (mOf_any _ _ c (h.lt _) hc).mono ?_
  rintro e w' ⟨rfl, hw⟩
  subst hw
  go_wp2
  go_ret
  exact ⟨rfl, hb.trans (hb2.mono (by simp))⟩
theorem mode_no (w : World) (p : Value) (i g c : Int) (hc : c < 0 ∨ 8 ≤ c) : Calls Try.prog 12 #[p, .agg #[.int .i64 i, .int .i64 g], .int .i64 c] w
    fun e w' => e = .returned (.int .i64 0) ∧ Below w.heap.size w w' := by
  have hb : Below w.heap.size w (w.alloc (.cells #[.int .i64 i, .int .i64 g] 24)) := (Below.refl _ _).alloc (Nat.le_refl _) _
  go_enter Try.func12, Try.ntmps12
  go_wp2_with fail
  refine (in_no _ c hc).mono ?_
  rintro e w' ⟨rfl, hw⟩
  subst hw
  go_wp2
  go_ret
  exact ⟨rfl, hb⟩

theorem new_any (w : World) : Calls Try.prog 7 #[] w fun e w' => ∃ b m, e = .returned (.pointer (some ⟨b, 0, none⟩)) ∧ TabAt w' b m [] 0 (fun _ => 0) ∧ w.heap.size ≤ b ∧ w.heap.size ≤ m ∧ Below w.heap.size w w' := by
  have hmm := @run_makeMap Try.prog
  go_enter Try.func7, Try.ntmps7
  go_wp2
  go_ret
  have e : (w.alloc (.map #[] 0)).heap.size = w.heap.size + 1 := by simp
  refine ⟨_, w.heap.size, rfl, ⟨by rw [← e]; exact heap_alloc_at, heap_alloc_of heap_alloc_at, WF.nil 0, by simp, fun f => rfl, fun f => (by decide : 0 < 65536), fun f c _ => by simp [mo]⟩, by simp, Nat.le_refl _, ((Below.refl _ _).alloc (Nat.le_refl _) _).alloc (by simp) _⟩

/-- What set makes of M. -/
def setM (M : Fi → Nat) (f : Fi) (v : Nat) : Fi → Nat := fun x => if x = f then v else M x
theorem set_any (w : World) (b m clk : Nat) (L : Ents Fi) (M : Fi → Nat) (h : TabAt w b m L clk M) (i g : Int) (v : Nat) (hv : v < 65536) (hv2 : ∀ c, c < 8 → mo v c ≤ 2) : Calls Try.prog 29 #[.pointer (some ⟨b, 0, none⟩), .agg #[.int .i64 i, .int .i64 g], .int .u16 v] w
    fun e w' => e = .returned (.tuple #[]) ∧ (∃ L' clk', TabAt w' b m L' clk' (setM M (i, g) v)) ∧ Mod (fun x => x = m) w w' := by
  have hb : Mod (fun x => x = m) w (w.alloc (.cells #[.int .i64 i, .int .i64 g] 24)) := (Mod.refl _ _).alloc _
  have h1 := h.below ((Below.refl _ _).alloc (Nat.le_refl _) _ : Below w.heap.size w (w.alloc (.cells #[.int .i64 i, .int .i64 g] 24))) h.b_lt h.m_lt
  have c0 := h1.c0
  have hmap := h1.map
  have hbox : Lies (w.alloc (.cells #[.int .i64 i, .int .i64 g] 24)) w.heap.size 0 #[.int .i64 i, .int .i64 g] := box_file
  by_cases hz : v = 0
  · subst hz
    have HE := Lib.hid h1
    clear h h1 hv hv2
    go_enter Try.func29, Try.ntmps29
    go_upto_region 2 with (fail)
    refine wp_region_x (fun w' => w'.cell? ⟨b, 0, none⟩ = some (.map (some m)) ∧ w'.heap[m]? = some (.map (ents encF L) clk) ∧ Lies w' w.heap.size 0 #[.int .i64 i, .int .i64 g]) [(0, 1), (1, 1), (2, 1), (3, 0), (4, 0), (5, 3)] (by kernel_rfl) (by kernel_rfl) (by intro d v c a w h; cases d <;> exact h) ?_
    iterate 3 (refine x_take rfl (fun K hK => ?_); go_simp; refine hK _ ?_; clear hK K)
    refine x_read rfl ⟨c0, hmap, hbox⟩ (fun w' h => exec_load1 scalarMap rfl h.1) ?_
    refine x_read rfl ⟨c0, hmap, hbox⟩ (fun w' h => exec_loadA (aggF _ _) rfl h.2.2) ?_
    refine x_exec rfl (exec_delete (w := (w.alloc (.cells #[.int .i64 i, .int .i64 g] 24)).drew) keyF Try.underlying52 hmap rfl (i, g) rfl) ?_
    refine x_nil ?_
    go_wp2
    (try simp only [Exit.inBlock, Exit.then]); refine bodyPost_ret (results_none rfl _ _ _) rfl ?_
    have h1 := HE.out
    refine ⟨rfl, ⟨del (i, g) L, clk, (setObjW_ne h1.ne).trans h1.blk, setObjW_at (lt_of_block h1.map), h1.wf.del, h1.ne, fun f => ?_, fun f => ?_, fun f c hc => ?_⟩, hb.drew.trans (setObjW_mod m _) (fun _ h => h) (fun _ _ h => h)⟩
    · rw [get_del h1.wf, h1.get]
      unfold setM
      by_cases hf : f = (i, g)
      · simp [hf]
      · simp [hf]
    · unfold setM
      split
      · decide
      · exact h1.lt f
    · unfold setM
      split
      · simp [mo]
      · exact h1.two f c hc
  · have hz' : ((v : Int) == 0) = false := by simpa using (show ¬ (v : Int) = 0 by omega)
    have HE := Lib.hid h1
    have HV := Lib.hid hv
    have HW := Lib.hid hv2
    have HZ := Lib.hid hz
    clear h h1 hv hz hv2
    go_enter Try.func29, Try.ntmps29
    go_upto_region 3 with (fail)
    refine wp_region_x (fun w' => w'.cell? ⟨b, 0, none⟩ = some (.map (some m)) ∧ w'.heap[m]? = some (.map (ents encF L) clk) ∧ Lies w' w.heap.size 0 #[.int .i64 i, .int .i64 g]) [(0, 1), (1, 1), (2, 1), (3, 0), (4, 0), (5, 1), (6, 3)] (by kernel_rfl) (by kernel_rfl) (by intro d v c a w h; cases d <;> exact h) ?_
    iterate 3 (refine x_take rfl (fun K hK => ?_); go_simp; refine hK _ ?_; clear hK K)
    refine x_read rfl ⟨c0, hmap, hbox⟩ (fun w' h => exec_load1 scalarMap rfl h.1) ?_
    refine x_read rfl ⟨c0, hmap, hbox⟩ (fun w' h => exec_loadA (aggF _ _) rfl h.2.2) ?_
    iterate 1 (refine x_take rfl (fun K hK => ?_); go_simp; refine hK _ ?_; clear hK K)
    refine x_skip rfl (exec_mapUpdate (w := (w.alloc (.cells #[.int .i64 i, .int .i64 g] 24)).drew) keyF Try.underlying52 hmap rfl (i, g) rfl) ?_
    refine x_nil ?_
    go_wp2
    go_end0
    have h1 := HE.out
    refine ⟨rfl, ⟨upd (i, g) (.int .u16 v) L clk, updClk (i, g) L clk, (setObjW_ne h1.ne).trans h1.blk, setObjW_at (lt_of_block h1.map), h1.wf.upd, h1.ne, fun f => ?_, fun f => ?_, fun f c hc => ?_⟩, hb.drew.trans (setObjW_mod m _) (fun _ h => h) (fun _ _ h => h)⟩
    · rw [get_upd h1.wf, h1.get]
      unfold setM
      by_cases hf : f = (i, g)
      · simp [hf, HZ.out]
      · simp [hf]
    · unfold setM
      split
      · exact HV.out
      · exact h1.lt f
    · unfold setM
      split
      · exact HW.out c hc
      · exact h1.two f c hc
end Go.Proofs.Ytnjiocikpigegaa
