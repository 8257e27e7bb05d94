/- Held: has, Grant, Update, Claimed, Unclaimed walked. -/
import Derived.Test.YthckjciblngaaaaHb
namespace Go.Proofs.Ythckjciblngaaaa
open Go.RowKit Go.Tn Go.Maps Go.Sort Go.Shelf

theorem MRd.alloc {b m bx : Nat} {i g : Int} {L : Ents Fi} {clk : Nat} {w : World} (h : MRd b m bx i g L clk w) (o : Obj) : MRd b m bx i g L clk (w.alloc o) := by
  have hal : Below w.heap.size w (w.alloc o) := (Below.refl _ w).alloc (Nat.le_refl _) _
  have hx : bx < w.heap.size := World.block_lt_of_cell? w _ (h.box 0 (by simp))
  exact ⟨(hal.cell (p := ⟨b, 4, none⟩) (World.block_lt_of_cell? w _ h.c4)).trans h.c4, heap_alloc_of h.map, h.box.below' hal hx⟩
section
variable {w : World} {b m lb : Nat} {ph se bo : Int} {L : Ents Fi} {clk : Nat} {G : Gs} {wv : Value} {W : List Fi} {t u : Nat}
/-- So, whatever the map's entries. -/
def HSome (w : World) (b m lb : Nat) (ph se bo : Int) (G : Gs) (wv : Value) (W : List Fi) (t u n : Nat) : Prop := ∃ L clk, HAt w b m lb ph se bo L clk G wv W t u ∧ L.length ≤ n
/-- What a lookup with 'ok' answers. -/
theorem HAt.look (h : HAt w b m lb ph se bo L clk G wv W t u) (f : Fi) : Go.Tn.getD f L (enO ⟨0, 0, false⟩) = .agg #[.int .i64 ((G f).getD ⟨0, 0, false⟩).mode, .int .u64 ((G f).getD ⟨0, 0, false⟩).ver, .bool ((G f).getD ⟨0, 0, false⟩).cl] ∧ (Go.Tn.get f L).isSome = (G f).isSome := by
  refine ⟨h.getO f, ?_⟩
  rw [h.get]
  cases G f <;> rfl
theorem has_no (h : HAt w b m lb ph se bo L clk G wv W t u) {p : Int} (hp : ph ≠ p) (i g : Int) : Calls Try.prog 50 #[.pointer (some ⟨b, 0, none⟩), .agg #[.int .i64 i, .int .i64 g], .int .i64 p] w
    fun e w' => e = .returned (.int .i64 2) ∧ Below w.heap.size w w' := by
  have hb : Below w.heap.size w (w.alloc (.cells #[.int .i64 i, .int .i64 g] 39)) := (Below.refl _ _).alloc (Nat.le_refl _) _
  have hm := must_no (h.below hb) hp
  clear hp
  go_enter Try.func50, Try.ntmps50
  go_wp2_with (go_at_call 31; refine hm.mono ?_; rintro e w ⟨rfl, rfl⟩)
  go_ret
  exact ⟨rfl, hb⟩
theorem has_any (h : HAt w b m lb ph se bo L clk G wv W t u) (i g : Int) : Calls Try.prog 50 #[.pointer (some ⟨b, 0, none⟩), .agg #[.int .i64 i, .int .i64 g], .int .i64 ph] w
    fun e w' => e = .returned (.int .i64 (if (G (i, g)).isSome then 0 else 11)) ∧ Below w.heap.size w w' := by
  have hb : Below w.heap.size w (w.alloc (.cells #[.int .i64 i, .int .i64 g] 39)) := (Below.refl _ _).alloc (Nat.le_refl _) _
  have h1 := h.below hb
  have hm := must_yes h1
  obtain ⟨hg, hs⟩ := h.look (i, g)
  obtain ⟨⟨md, vr, cl⟩, ho⟩ : ∃ o, (G (i, g)).getD ⟨0, 0, false⟩ = o := ⟨_, rfl⟩
  rw [ho] at hg
  obtain ⟨s, hse⟩ : ∃ s, (G (i, g)).isSome = s := ⟨_, rfl⟩
  rw [hse] at hs ⊢
  have hS : MRd b m w.heap.size i g L clk (w.alloc (.cells #[.int .i64 i, .int .i64 g] 39)).drew := ⟨h1.c4, h1.map, box_file⟩
  have HG := Lib.hid hg
  have HS := Lib.hid hs
  have hbF : Below w.heap.size w ((w.alloc (.cells #[.int .i64 i, .int .i64 g] 39)).drew.alloc (.cells #[.int .i64 md, .int .u64 vr, .bool cl] 68)) := hb.drew.alloc (by simp) _
  clear ho hg hs hse
  go_enter Try.func50, Try.ntmps50
  go_upto_region 4 with (go_at_call 31; refine hm.mono ?_; rintro e w' ⟨rfl, hw⟩; obtain rfl := hw.symm; clear hw)
  refine wp_region_x (MRd b m w.heap.size i g L clk) [(0, 1), (1, 1), (2, 1), (3, 0), (4, 0), (5, 0), (6, 1), (7, 1), (8, 1), (9, 2), (10, 3), (11, 1)] (by kernel_rfl) (by kernel_rfl) (by intro d v c a w h; cases d <;> exact h) ?_
  iterate 3 (refine x_take rfl (fun K hK => ?_); go_simp; refine hK _ ?_; clear hK K)
  refine x_read rfl hS (fun w' h => exec_load1 scalarMap rfl h.c4) ?_
  refine x_read rfl hS (fun w' h => exec_loadA (aggF _ _) rfl h.box) ?_
  refine x_read rfl hS (fun w' h => exec_lookup_ok keyF Try.underlying52 zeroO h.map rfl (i, g) rfl) ?_
  rw [HG.out, HS.out]
  cases s
  all_goals
    iterate 3 (refine x_take rfl (fun K hK => ?_); go_simp; refine hK _ ?_; clear hK K)
    refine x_show' rfl (fun K hK => ?_)
    go_simp
    refine hK _ _ (hS.alloc _) ?_
    clear hK K
    refine x_exec' rfl (fun K hK => ?_)
    go_simp
    refine hK _ _ ?_
    clear hK K
    iterate 1 (refine x_take rfl (fun K hK => ?_); go_simp; refine hK _ ?_; clear hK K)
    refine x_nil ?_
    go_wp2
    go_ret
    exact ⟨rfl, hbF⟩

/-! ### Grant -/
theorem grant_no (h : HAt w b m lb ph se bo L clk G wv W t u) (i g md v : Int) (hp : ph ≠ 2) : Calls Try.prog 24 #[.pointer (some ⟨b, 0, none⟩), .agg #[.int .i64 i, .int .i64 g], .int .i64 md, .int .u64 v] w
    fun e w' => e = .returned (.int .i64 2) ∧ Below w.heap.size w w' := by
  have hb : Below w.heap.size w (w.alloc (.cells #[.int .i64 i, .int .i64 g] 39)) := (Below.refl _ _).alloc (Nat.le_refl _) _
  have hm := must_no (h.below hb) hp
  clear hp
  go_enter Try.func24, Try.ntmps24
  go_wp2_with (go_at_call 31; refine hm.mono ?_; rintro e w ⟨rfl, rfl⟩)
  go_ret
  exact ⟨rfl, hb⟩
theorem grant_kind (h : HAt w b m lb 2 se bo L clk G wv W t u) (i g md v : Int) (hp : md ≠ 1 ∧ md ≠ 2) : Calls Try.prog 24 #[.pointer (some ⟨b, 0, none⟩), .agg #[.int .i64 i, .int .i64 g], .int .i64 md, .int .u64 v] w
    fun e w' => e = .returned (.int .i64 12) ∧ Below w.heap.size w w' := by
  have hb : Below w.heap.size w (w.alloc (.cells #[.int .i64 i, .int .i64 g] 39)) := (Below.refl _ _).alloc (Nat.le_refl _) _
  have hm := must_yes (h.below hb)
  have t1 : (md != 1) = true := by simpa using hp.1
  have t2 : (md != 2) = true := by simpa using hp.2
  clear hp
  go_enter Try.func24, Try.ntmps24
  go_wp2_with (go_at_call 31; refine hm.mono ?_; rintro e w ⟨rfl, rfl⟩)
  go_ret
  exact ⟨rfl, hb⟩
def grantO (G : Gs) (f : Fi) (md v : Int) : One := ⟨max md ((G f).getD ⟨0, 0, false⟩).mode, v, false⟩
theorem grant_yes (h : HAt w b m lb 2 se bo L clk G wv W t u) (i g md v : Int) (hp : md = 1 ∨ md = 2) : Calls Try.prog 24 #[.pointer (some ⟨b, 0, none⟩), .agg #[.int .i64 i, .int .i64 g], .int .i64 md, .int .u64 v] w
    fun e w' => e = .returned (.int .i64 0) ∧ HSome w' b m lb 2 se bo ((putG G (i, g) (some (grantO G (i, g) md v)))) wv W t u (L.length + 1) ∧ Mod (fun x => x = m) w w' := by
  have hb : Below w.heap.size w (w.alloc (.cells #[.int .i64 i, .int .i64 g] 39)) := (Below.refl _ _).alloc (Nat.le_refl _) _
  have h1 := h.below hb
  have hm := must_yes h1
  have hg := h.getO (i, g)
  unfold grantO
  obtain ⟨⟨mo, vr, cl⟩, ho⟩ : ∃ o, (G (i, g)).getD ⟨0, 0, false⟩ = o := ⟨_, rfl⟩
  rw [ho] at hg ⊢
  have hS : MRd b m w.heap.size i g L clk (w.alloc (.cells #[.int .i64 i, .int .i64 g] 39)).drew := ⟨h1.c4, h1.map, box_file⟩
  have HG := Lib.hid hg
  have H1 := Lib.hid h1
  clear ho hg h1
  have hput : ∀ mx, HAt (setObjW (w.alloc (.cells #[.int .i64 i, .int .i64 g] 39)).drew m (.map (ents encF (upd (i, g) (enO ⟨mx, v, false⟩) L clk)) (updClk (i, g) L clk))) b m lb 2 se bo (upd (i, g) (enO ⟨mx, v, false⟩) L clk) (updClk (i, g) L clk) (putG G (i, g) (some ⟨mx, v, false⟩)) wv W t u ∧ Mod (fun x => x = m) w (setObjW (w.alloc (.cells #[.int .i64 i, .int .i64 g] 39)).drew m (.map (ents encF (upd (i, g) (enO ⟨mx, v, false⟩) L clk)) (updClk (i, g) L clk))) := fun mx => by
    have hmm := setObjW_mod (w := (w.alloc (.cells #[.int .i64 i, .int .i64 g] 39)).drew) m (.map (ents encF (upd (i, g) (enO ⟨mx, v, false⟩) L clk)) (updClk (i, g) L clk))
    refine ⟨(H1.out.below (Below.refl _ _).drew).put (i, g) ⟨mx, v, false⟩ (setObjW_at (w := (w.alloc (.cells #[.int .i64 i, .int .i64 g] 39)).drew) H1.out.m_lt) hmm, ?_⟩
    exact ((Mod.of_below hb.drew).mono (T := fun x => x = m) fun x hx hh => absurd hx (Nat.not_lt.2 hh)).trans hmm (fun _ h => h) (fun _ _ h => h)
  have HP := Lib.hid hput
  clear hput
  have hf0 := fieldO0 mo vr cl
  have hne : (md != 1 && md != 2) = false := by rcases hp with rfl | rfl <;> rfl
  rcases hp with rfl | rfl
  all_goals
    go_enter Try.func24, Try.ntmps24
    go_upto_region 6 with (go_at_call 31; refine hm.mono ?_; rintro e w' ⟨rfl, hw⟩; obtain rfl := hw.symm; clear hw)
    refine wp_region_x (MRd b m w.heap.size i g L clk) [(0, 1), (1, 1), (2, 1), (3, 0), (4, 0), (5, 1), (6, 1), (7, 1), (8, 1), (9, 0), (10, 0), (11, 0), (12, 1), (13, 1), (14, 1), (15, 1), (16, 3)] (by kernel_rfl) (by kernel_rfl) (by intro d v c a w h; cases d <;> exact h) ?_
    iterate 3 (refine x_take rfl (fun K hK => ?_); go_simp; refine hK _ ?_; clear hK K)
    refine x_read rfl hS (fun w' h => exec_load1 scalarMap rfl h.c4) ?_
    refine x_read rfl hS (fun w' h => exec_loadA (aggF _ _) rfl h.box) ?_
    iterate 4 (refine x_take rfl (fun K hK => ?_); go_simp; refine hK _ ?_; clear hK K)
    refine x_read rfl hS (fun w' h => exec_load1 scalarMap rfl h.c4) ?_
    refine x_read rfl hS (fun w' h => exec_loadA (aggF _ _) rfl h.box) ?_
    refine x_read rfl hS (fun w' h => exec_lookup keyF Try.underlying52 zeroO h.map rfl (i, g) rfl) ?_
    rw [HG.out]
    unfold enO
    iterate 4 (refine x_take rfl (fun K hK => ?_); go_simp; refine hK _ ?_; clear hK K)
    refine x_skip rfl (exec_mapUpdate (w := (w.alloc (.cells #[.int .i64 i, .int .i64 g] 39)).drew) keyF Try.underlying52 hS.map rfl (i, g) rfl) ?_
    refine x_nil ?_
    go_wp2
    go_ret
    exact ⟨rfl, ⟨_, _, (HP.out _).1, upd_len⟩, (HP.out _).2⟩

/-! ### Claimed, Unclaimed, Update -/
def claimO (G : Gs) (f : Fi) (v : Int) : One := ⟨((G f).getD ⟨0, 0, false⟩).mode, v, true⟩
theorem claimed_no (h : HAt w b m lb ph se bo L clk G wv W t u) (i g v : Int) (hp : ph ≠ 1 ∨ G (i, g) = none) : Calls Try.prog 21 #[.pointer (some ⟨b, 0, none⟩), .agg #[.int .i64 i, .int .i64 g], .int .u64 v] w
    fun e w' => (∃ c, (c = 2 ∨ c = 11) ∧ e = .returned (.int .i64 c)) ∧ Below w.heap.size w w' := by
  have hb : Below w.heap.size w (w.alloc (.cells #[.int .i64 i, .int .i64 g] 39)) := (Below.refl _ _).alloc (Nat.le_refl _) _
  have h1 := h.below hb
  by_cases hph : ph = 1
  · subst hph
    have hG : G (i, g) = none := by rcases hp with hp | hp; exact absurd rfl hp; exact hp
    have hh := has_any h1 i g
    rw [hG] at hh
    clear hp hG
    go_enter Try.func21, Try.ntmps21
    go_wp2_with fail
    refine hh.mono ?_
    rintro e w2 ⟨rfl, hb2⟩
    go_wp2
    go_ret
    exact ⟨⟨_, .inr rfl, rfl⟩, hb.trans (hb2.mono (by simp))⟩
  · have hh := has_no h1 hph i g
    clear hp hph
    go_enter Try.func21, Try.ntmps21
    go_wp2_with fail
    refine hh.mono ?_
    rintro e w2 ⟨rfl, hb2⟩
    go_wp2
    go_ret
    exact ⟨⟨_, .inl rfl, rfl⟩, hb.trans (hb2.mono (by simp))⟩
/-- A file's element changed, in the map of a call with a box for the file. -/
theorem HAt.putted (h : HAt w b m lb ph se bo L clk G wv W t u) (f : Fi) {w1 : World} (hb : Below w.heap.size w w1) (o : One) :
    HAt (setObjW w1 m (.map (ents encF (upd f (enO o) L clk)) (updClk f L clk))) b m lb ph se bo (upd f (enO o) L clk) (updClk f L clk) (putG G f (some o)) wv W t u ∧ Mod (fun x => x = m) w (setObjW w1 m (.map (ents encF (upd f (enO o) L clk)) (updClk f L clk))) := by
  have hmm := setObjW_mod (w := w1) m (.map (ents encF (upd f (enO o) L clk)) (updClk f L clk))
  have h1 := h.below hb
  exact ⟨h1.put f o (setObjW_at h1.m_lt) hmm, ((Mod.of_below hb).mono (T := fun x => x = m) fun x hx hh => absurd hx (Nat.not_lt.2 hh)).trans hmm (fun _ h => h) (fun _ _ h => h)⟩
theorem HAt.deled (h : HAt w b m lb ph se bo L clk G wv W t u) (f : Fi) {w1 : World} (hb : Below w.heap.size w w1) :
    HAt (setObjW w1 m (.map (ents encF (del f L)) clk)) b m lb ph se bo (del f L) clk (putG G f none) wv W t u ∧ Mod (fun x => x = m) w (setObjW w1 m (.map (ents encF (del f L)) clk)) := by
  have hmm := setObjW_mod (w := w1) m (.map (ents encF (del f L)) clk)
  have h1 := h.below hb
  exact ⟨h1.wdel f (setObjW_at h1.m_lt) hmm, ((Mod.of_below hb).mono (T := fun x => x = m) fun x hx hh => absurd hx (Nat.not_lt.2 hh)).trans hmm (fun _ h => h) (fun _ _ h => h)⟩
theorem claimed_yes (h : HAt w b m lb 1 se bo L clk G wv W t u) (i g v : Int) (hG : (G (i, g)).isSome = true) : Calls Try.prog 21 #[.pointer (some ⟨b, 0, none⟩), .agg #[.int .i64 i, .int .i64 g], .int .u64 v] w
    fun e w' => e = .returned (.int .i64 0) ∧ HSome w' b m lb 1 se bo ((putG G (i, g) (some (claimO G (i, g) v)))) wv W t u (L.length + 1) ∧ Mod (fun x => x = m) w w' := by
  have hb : Below w.heap.size w (w.alloc (.cells #[.int .i64 i, .int .i64 g] 39)) := (Below.refl _ _).alloc (Nat.le_refl _) _
  have h1 := h.below hb
  have hh := has_any h1 i g
  rw [hG, if_pos rfl] at hh
  have hg := h.getO (i, g)
  unfold claimO
  obtain ⟨⟨mo, vr, cl⟩, ho⟩ : ∃ o, (G (i, g)).getD ⟨0, 0, false⟩ = o := ⟨_, rfl⟩
  rw [ho] at hg ⊢
  have HG := Lib.hid hg
  have HH := Lib.hid h
  clear ho hg hG
  go_enter Try.func21, Try.ntmps21
  go_wp2_with fail
  refine hh.mono ?_
  rintro e w2 ⟨rfl, hb2⟩
  have hB : Below w.heap.size w w2 := hb.trans (hb2.mono (by simp))
  have h2 := HH.out.below hB
  have hS0 : MRd b m w.heap.size i g L clk w2 := ⟨h2.c4, h2.map, box_file.below' hb2 (by simp)⟩
  have hS := hS0.drew
  have hP := HH.out.putted (i, g) hB.drew ⟨mo, v, true⟩
  have HP := Lib.hid hP
  have hf0 := fieldO0 mo vr cl
  clear h2 hP hh
  go_upto_region 4 with (fail)
  refine wp_region_x (MRd b m w.heap.size i g L clk) [(0, 1), (1, 1), (2, 1), (3, 0), (4, 0), (5, 1), (6, 1), (7, 1), (8, 0), (9, 0), (10, 0), (11, 1), (12, 1), (13, 1), (14, 3)] (by kernel_rfl) (by kernel_rfl) (by intro d v c a w h; cases d <;> exact h) ?_
  iterate 3 (refine x_take rfl (fun K hK => ?_); go_simp; refine hK _ ?_; clear hK K)
  refine x_read rfl hS (fun w' h => exec_load1 scalarMap rfl h.c4) ?_
  refine x_read rfl hS (fun w' h => exec_loadA (aggF _ _) rfl h.box) ?_
  iterate 3 (refine x_take rfl (fun K hK => ?_); go_simp; refine hK _ ?_; clear hK K)
  refine x_read rfl hS (fun w' h => exec_load1 scalarMap rfl h.c4) ?_
  refine x_read rfl hS (fun w' h => exec_loadA (aggF _ _) rfl h.box) ?_
  refine x_read rfl hS (fun w' h => exec_lookup keyF Try.underlying52 zeroO h.map rfl (i, g) rfl) ?_
  rw [HG.out]
  unfold enO
  iterate 3 (refine x_take rfl (fun K hK => ?_); go_simp; refine hK _ ?_; clear hK K)
  refine x_skip rfl (exec_mapUpdate (w := w2.drew) keyF Try.underlying52 hS.map rfl (i, g) rfl) ?_
  refine x_nil ?_
  go_wp2
  go_ret
  exact ⟨rfl, ⟨_, _, HP.out.1, upd_len⟩, HP.out.2⟩
theorem unclaimed_no (h : HAt w b m lb ph se bo L clk G wv W t u) (i g : Int) (hp : ph ≠ 1 ∨ G (i, g) = none) : Calls Try.prog 22 #[.pointer (some ⟨b, 0, none⟩), .agg #[.int .i64 i, .int .i64 g]] w
    fun e w' => (∃ c, (c = 2 ∨ c = 11) ∧ e = .returned (.int .i64 c)) ∧ Below w.heap.size w w' := by
  have hb : Below w.heap.size w (w.alloc (.cells #[.int .i64 i, .int .i64 g] 39)) := (Below.refl _ _).alloc (Nat.le_refl _) _
  have h1 := h.below hb
  by_cases hph : ph = 1
  · subst hph
    have hG : G (i, g) = none := by rcases hp with hp | hp; exact absurd rfl hp; exact hp
    have hh := has_any h1 i g
    rw [hG] at hh
    clear hp hG
    go_enter Try.func22, Try.ntmps22
    go_wp2_with fail
    refine hh.mono ?_
    rintro e w2 ⟨rfl, hb2⟩
    go_wp2
    go_ret
    exact ⟨⟨_, .inr rfl, rfl⟩, hb.trans (hb2.mono (by simp))⟩
  · have hh := has_no h1 hph i g
    clear hp hph
    go_enter Try.func22, Try.ntmps22
    go_wp2_with fail
    refine hh.mono ?_
    rintro e w2 ⟨rfl, hb2⟩
    go_wp2
    go_ret
    exact ⟨⟨_, .inl rfl, rfl⟩, hb.trans (hb2.mono (by simp))⟩
theorem unclaimed_yes (h : HAt w b m lb 1 se bo L clk G wv W t u) (i g : Int) (hG : (G (i, g)).isSome = true) : Calls Try.prog 22 #[.pointer (some ⟨b, 0, none⟩), .agg #[.int .i64 i, .int .i64 g]] w
    fun e w' => e = .returned (.int .i64 0) ∧ HSome w' b m lb 1 se bo ((putG G (i, g) none)) wv W t u (L.length) ∧ Mod (fun x => x = m) w w' := by
  have hb : Below w.heap.size w (w.alloc (.cells #[.int .i64 i, .int .i64 g] 39)) := (Below.refl _ _).alloc (Nat.le_refl _) _
  have h1 := h.below hb
  have hh := has_any h1 i g
  rw [hG, if_pos rfl] at hh
  have HH := Lib.hid h
  clear hG
  go_enter Try.func22, Try.ntmps22
  go_wp2_with fail
  refine hh.mono ?_
  rintro e w2 ⟨rfl, hb2⟩
  have hB : Below w.heap.size w w2 := hb.trans (hb2.mono (by simp))
  have h2 := HH.out.below hB
  have hS0 : MRd b m w.heap.size i g L clk w2 := ⟨h2.c4, h2.map, box_file.below' hb2 (by simp)⟩
  have hS := hS0.drew
  have hP := HH.out.deled (i, g) hB.drew
  have HP := Lib.hid hP
  clear h2 hP hh
  go_upto_region 4 with (fail)
  refine wp_region_x (MRd b m w.heap.size i g L clk) [(0, 1), (1, 1), (2, 1), (3, 0), (4, 0), (5, 3)] (by kernel_rfl) (by kernel_rfl) (by intro d v c a w h; cases d <;> exact h) ?_
  iterate 3 (refine x_take rfl (fun K hK => ?_); go_simp; refine hK _ ?_; clear hK K)
  refine x_read rfl hS (fun w' h => exec_load1 scalarMap rfl h.c4) ?_
  refine x_read rfl hS (fun w' h => exec_loadA (aggF _ _) rfl h.box) ?_
  refine x_exec rfl (exec_delete (w := w2.drew) keyF Try.underlying52 hS.map rfl (i, g) rfl) ?_
  refine x_nil ?_
  go_wp2
  go_ret
  exact ⟨rfl, ⟨_, _, HP.out.1, del_len⟩, HP.out.2⟩
theorem update_any (h : HAt w b m lb ph se bo L clk G wv W t u) (i g v : Int) : Calls Try.prog 26 #[.pointer (some ⟨b, 0, none⟩), .agg #[.int .i64 i, .int .i64 g], .int .u64 v] w
    fun e w' => e = .returned (.int .i64 (if (G (i, g)).isSome then 0 else 11)) ∧ HSome w' b m lb ph se bo ((if (G (i, g)).isSome then putG G (i, g) (some ⟨((G (i, g)).getD ⟨0, 0, false⟩).mode, v, ((G (i, g)).getD ⟨0, 0, false⟩).cl⟩) else G)) wv W t u (L.length + 1) ∧ Mod (fun x => x = m) w w' := by
  have hb : Below w.heap.size w (w.alloc (.cells #[.int .i64 i, .int .i64 g] 39)) := (Below.refl _ _).alloc (Nat.le_refl _) _
  have h1 := h.below hb
  have hm := ok_any _ b lb h1.c0
  obtain ⟨hg, hs⟩ := h.look (i, g)
  obtain ⟨⟨md, vr, cl⟩, ho⟩ : ∃ o, (G (i, g)).getD ⟨0, 0, false⟩ = o := ⟨_, rfl⟩
  rw [ho] at hg ⊢
  obtain ⟨s, hse⟩ : ∃ s, (G (i, g)).isSome = s := ⟨_, rfl⟩
  rw [hse] at hs ⊢
  have hS : MRd b m w.heap.size i g L clk (w.alloc (.cells #[.int .i64 i, .int .i64 g] 39)).drew := ⟨h1.c4, h1.map, box_file⟩
  have HG := Lib.hid hg
  have HS := Lib.hid hs
  have HH := Lib.hid h
  have hbF : Below w.heap.size w ((w.alloc (.cells #[.int .i64 i, .int .i64 g] 39)).drew.alloc (.cells #[.int .i64 md, .int .u64 vr, .bool cl] 68)) := hb.drew.alloc (by simp) _
  clear ho hg hs hse
  go_enter Try.func26, Try.ntmps26
  go_upto_region 3 with (go_at_call 30; refine hm.mono ?_; rintro e w' ⟨rfl, hw⟩; obtain rfl := hw.symm; clear hw)
  refine wp_region_x (MRd b m w.heap.size i g L clk) [(0, 1), (1, 1), (2, 1), (3, 0), (4, 0), (5, 0), (6, 1), (7, 1), (8, 1), (9, 2), (10, 3), (11, 1)] (by kernel_rfl) (by kernel_rfl) (by intro d v c a w h; cases d <;> exact h) ?_
  iterate 3 (refine x_take rfl (fun K hK => ?_); go_simp; refine hK _ ?_; clear hK K)
  refine x_read rfl hS (fun w' h => exec_load1 scalarMap rfl h.c4) ?_
  refine x_read rfl hS (fun w' h => exec_loadA (aggF _ _) rfl h.box) ?_
  refine x_read rfl hS (fun w' h => exec_lookup_ok keyF Try.underlying52 zeroO h.map rfl (i, g) rfl) ?_
  rw [HG.out, HS.out]
  cases s
  · iterate 3 (refine x_take rfl (fun K hK => ?_); go_simp; refine hK _ ?_; clear hK K)
    refine x_show' rfl (fun K hK => ?_)
    go_simp
    refine hK _ _ (hS.alloc _) ?_
    clear hK K
    refine x_exec' rfl (fun K hK => ?_)
    go_simp
    refine hK _ _ ?_
    clear hK K
    iterate 1 (refine x_take rfl (fun K hK => ?_); go_simp; refine hK _ ?_; clear hK K)
    refine x_nil ?_
    go_wp2
    go_ret
    exact ⟨rfl, ⟨L, clk, HH.out.below hbF, Nat.le_succ _⟩, (Mod.of_below hbF).mono fun x hx hh => absurd hx (Nat.not_lt.2 hh)⟩
  · iterate 3 (refine x_take rfl (fun K hK => ?_); go_simp; refine hK _ ?_; clear hK K)
    refine x_show' rfl (fun K hK => ?_)
    go_simp
    refine hK _ _ (hS.alloc _) ?_
    clear hK K
    refine x_exec' rfl (fun K hK => ?_)
    go_simp
    refine hK _ _ ?_
    clear hK K
    iterate 1 (refine x_take rfl (fun K hK => ?_); go_simp; refine hK _ ?_; clear hK K)
    refine x_nil ?_
    go_upto_region 7 with (fail)
    have hb2 : Below w.heap.size w ((w.alloc (.cells #[.int .i64 i, .int .i64 g] 39)).alloc (.cells #[.int .i64 md, .int .u64 v, .bool cl] 68)) := hb.alloc (by simp) _
    have hlO : Lies (((w.alloc (.cells #[.int .i64 i, .int .i64 g] 39)).alloc (.cells #[.int .i64 md, .int .u64 v, .bool cl] 68))) (w.heap.size + 1) 0 #[.int .i64 md, .int .u64 v, .bool cl] := by
      have h0 : Lies (((w.alloc (.cells #[.int .i64 i, .int .i64 g] 39)).alloc (.cells #[.int .i64 md, .int .u64 v, .bool cl] 68))) (w.alloc (.cells #[.int .i64 i, .int .i64 g] 39)).heap.size 0 #[.int .i64 md, .int .u64 v, .bool cl] := lies_of heap_alloc_at
      rwa [show (w.alloc (.cells #[.int .i64 i, .int .i64 g] 39)).heap.size = w.heap.size + 1 by simp] at h0
    have hS1 : MRd b m w.heap.size i g L clk (((w.alloc (.cells #[.int .i64 i, .int .i64 g] 39)).alloc (.cells #[.int .i64 md, .int .u64 v, .bool cl] 68))) := MRd.alloc (⟨h1.c4, h1.map, box_file⟩ : MRd b m w.heap.size i g L clk (w.alloc (.cells #[.int .i64 i, .int .i64 g] 39))) _
    have HL := Lib.hid hlO
    have HS1 := Lib.hid hS1
    have HB2 := Lib.hid hb2
    clear hlO hS1 hb2 hS h1 hbF
    generalize hw3 : ((w.alloc (.cells #[.int .i64 i, .int .i64 g] 39)).alloc (.cells #[.int .i64 md, .int .u64 v, .bool cl] 68)) = w3 at *
    clear hw3
    have hS2 : MRd b m w.heap.size i g L clk w3.drew.drew ∧ Lies w3.drew.drew (w.heap.size + 1) 0 #[.int .i64 md, .int .u64 v, .bool cl] := ⟨HS1.out.drew.drew, HL.out⟩
    refine wp_region_x (fun w' => MRd b m w.heap.size i g L clk w' ∧ Lies w' (w.heap.size + 1) 0 #[.int .i64 md, .int .u64 v, .bool cl]) [(0, 1), (1, 1), (2, 1), (3, 0), (4, 0), (5, 0), (6, 3)] (by kernel_rfl) (by kernel_rfl) (by intro d v c a w h; cases d <;> exact h) ?_
    iterate 3 (refine x_take rfl (fun K hK => ?_); go_simp; refine hK _ ?_; clear hK K)
    refine x_read rfl hS2 (fun w' h => exec_load1 scalarMap rfl h.1.c4) ?_
    refine x_read rfl hS2 (fun w' h => exec_loadA (aggF _ _) rfl h.1.box) ?_
    refine x_read rfl hS2 (fun w' h => exec_loadA (aggO ⟨md, v, cl⟩) rfl h.2) ?_
    refine x_skip rfl (exec_mapUpdate (w := w3.drew.drew) keyF Try.underlying52 hS2.1.map rfl (i, g) rfl) ?_
    refine x_nil ?_
    have hP := HH.out.putted (i, g) HB2.out.drew.drew ⟨md, v, cl⟩
    have HP := Lib.hid hP
    clear hP hS2
    go_wp2
    go_ret
    exact ⟨rfl, ⟨_, _, HP.out.1, upd_len⟩, HP.out.2⟩
end
end Go.Proofs.Ythckjciblngaaaa
