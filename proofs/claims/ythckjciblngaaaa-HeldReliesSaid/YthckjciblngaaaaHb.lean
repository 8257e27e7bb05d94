/- Held: New, Mode, Version, Grant, Open, All, Lose walked. -/
import Derived.Test.YthckjciblngaaaaHa
import Derived.Test.YthckjciblngaaaaClr
namespace Go.Proofs.Ythckjciblngaaaa
open Go.RowKit Go.Tn Go.Maps Go.Sort Go.Shelf

/-- What the regions read: the map, and a box with a file. -/
structure MRd (b m bx : Nat) (i g : Int) (L : Ents Fi) (clk : Nat) (w : World) : Prop where
  c4 : w.cell? ⟨b, 4, none⟩ = some (.map (some m))
  map : w.heap[m]? = some (.map (ents encF L) clk)
  box : Lies w bx 0 #[.int .i64 i, .int .i64 g]
theorem MRd.drew {b m bx : Nat} {i g : Int} {L : Ents Fi} {clk : Nat} {w : World} (h : MRd b m bx i g L clk w) : MRd b m bx i g L clk w.drew := ⟨h.c4, h.map, h.box⟩

theorem fieldO0 (md vr : Int) (cl : Bool) (w : World) : (Instr.field 68 (.agg #[.int .i64 md, .int .u64 vr, .bool cl]) 0).run Try.prog w = .ok (.int .i64 md) w := by kernel_rfl
theorem fieldO1 (md vr : Int) (cl : Bool) (w : World) : (Instr.field 68 (.agg #[.int .i64 md, .int .u64 vr, .bool cl]) 1).run Try.prog w = .ok (.int .u64 vr) w := by kernel_rfl
theorem _root_.Go.Tn.Mod.cell {a w : World} {b : Nat} (h : Mod (fun x => x = b) a w) (o : Nat) (v : Value) : Mod (fun x => x = b) a (w.setCell ⟨b, o, none⟩ v) := h.setCell _ _ fun _ => rfl

theorem new_ok (w : World) (n : Nat) (h1 : 1 ≤ n) (h2 : n ≤ 1024) : Calls Try.prog 5 #[.int .i64 n] w
    fun e w' => ∃ b m lb, e = .returned (.tuple #[.pointer (some ⟨b, 0, none⟩), .int .i64 0]) ∧ HAt w' b m lb 0 0 0 [] 0 (fun _ => none) (.slice none 0 0) [] n 0 ∧ w.heap.size ≤ b ∧ w.heap.size ≤ m ∧ w.heap.size ≤ lb ∧ Below w.heap.size w w' := by
  have hmm := @run_makeMap Try.prog
  go_enter Try.func5, Try.ntmps5
  go_wp2_with fail
  refine (newLease_ok w n h1 h2).mono ?_
  rintro e w2 ⟨rfl, hl, hb⟩
  have hs := hl.lt
  go_wp2
  go_ret2
  have e : (w2.alloc (.map #[] 0)).heap.size = w2.heap.size + 1 := by simp
  have hsz := hb.size
  refine ⟨_, w2.heap.size, w.heap.size, rfl, ⟨by rw [← e]; exact heap_alloc_at, ⟨heap_alloc_of (heap_alloc_of hl.blk), hl.pos, hl.le, hl.ule⟩, heap_alloc_of heap_alloc_at, WF.nil 0, fun _ => rfl, LOut.nil (Nat.zero_le _), ?_, ?_, ?_, fun r hr => by cases hr⟩, ?_, ?_, Nat.le_refl _, ((hb.alloc ?_ _).alloc ?_ _)⟩
  all_goals (try simp)
  all_goals omega

section
variable {w : World} {b m lb : Nat} {ph se bo : Int} {L : Ents Fi} {clk : Nat} {G : Gs} {wv : Value} {W : List Fi} {t u : Nat}
theorem mode_in (h : HAt w b m lb 2 se bo L clk G wv W t u) (i g : Int) : Calls Try.prog 11 #[.pointer (some ⟨b, 0, none⟩), .agg #[.int .i64 i, .int .i64 g]] w
    fun e w' => e = .returned (.int .i64 ((G (i, g)).getD ⟨0, 0, false⟩).mode) ∧ Below w.heap.size w w' := by
  have hb : Below w.heap.size w (w.alloc (.cells #[.int .i64 i, .int .i64 g] 39)) := (Below.refl _ _).alloc (Nat.le_refl _) _
  have h1 := h.below hb
  have hm := must_yes h1
  have hg := h.getO (i, g)
  obtain ⟨⟨md, vr, cl⟩, ho⟩ : ∃ o, (G (i, g)).getD ⟨0, 0, false⟩ = o := ⟨_, rfl⟩
  rw [ho] at hg ⊢
  have hS : MRd b m w.heap.size i g L clk (w.alloc (.cells #[.int .i64 i, .int .i64 g] 39)).drew := ⟨h1.c4, h1.map, box_file⟩
  have HG := Lib.hid hg
  clear ho hg
  go_enter Try.func11, Try.ntmps11
  go_upto_region 3 with (go_at_call 31; refine hm.mono ?_; rintro e w ⟨rfl, rfl⟩)
  refine wp_region_x (MRd b m w.heap.size i g L clk) [(0, 1), (1, 1), (2, 1), (3, 0), (4, 0), (5, 0), (6, 1), (7, 1)] (by kernel_rfl) (by kernel_rfl) (by intro d v c a w h; cases d <;> exact h) ?_
  iterate 3 (refine x_take rfl (fun K hK => ?_); go_simp; refine hK _ ?_; clear hK K)
  refine x_read rfl hS (fun w' h => exec_load1 scalarMap rfl h.c4) ?_
  refine x_read rfl hS (fun w' h => exec_loadA (aggF _ _) rfl h.box) ?_
  refine x_read rfl hS (fun w' h => exec_lookup keyF Try.underlying52 zeroO h.map rfl (i, g) rfl) ?_
  rw [HG.out]
  unfold enO
  have hf0 := fieldO0 md vr cl
  have hf1 := fieldO1 md vr cl
  iterate 2 (refine x_take rfl (fun K hK => ?_); go_simp; refine hK _ ?_; clear hK K)
  refine x_nil ?_
  go_wp2
  go_ret
  exact ⟨rfl, hb.drew⟩
theorem mode_out (h : HAt w b m lb ph se bo L clk G wv W t u) (hp : ph ≠ 2) (i g : Int) : Calls Try.prog 11 #[.pointer (some ⟨b, 0, none⟩), .agg #[.int .i64 i, .int .i64 g]] w
    fun e w' => e = .returned (.int .i64 0) ∧ Below w.heap.size w w' := by
  have hb : Below w.heap.size w (w.alloc (.cells #[.int .i64 i, .int .i64 g] 39)) := (Below.refl _ _).alloc (Nat.le_refl _) _
  have hm := must_no (h.below hb) hp
  clear hp
  go_enter Try.func11, Try.ntmps11
  go_wp2_with (go_at_call 31; refine hm.mono ?_; rintro e w ⟨rfl, rfl⟩)
  go_ret
  exact ⟨rfl, hb⟩
theorem version_any (h : HAt w b m lb ph se bo L clk G wv W t u) (i g : Int) : Calls Try.prog 14 #[.pointer (some ⟨b, 0, none⟩), .agg #[.int .i64 i, .int .i64 g]] w
    fun e w' => e = .returned (.int .u64 ((G (i, g)).getD ⟨0, 0, false⟩).ver) ∧ Below w.heap.size w w' := by
  have hb : Below w.heap.size w (w.alloc (.cells #[.int .i64 i, .int .i64 g] 39)) := (Below.refl _ _).alloc (Nat.le_refl _) _
  have h1 := h.below hb
  have hm := ok_any _ b lb h1.c0
  have hg := h.getO (i, g)
  obtain ⟨⟨md, vr, cl⟩, ho⟩ : ∃ o, (G (i, g)).getD ⟨0, 0, false⟩ = o := ⟨_, rfl⟩
  rw [ho] at hg ⊢
  have hS : MRd b m w.heap.size i g L clk (w.alloc (.cells #[.int .i64 i, .int .i64 g] 39)).drew := ⟨h1.c4, h1.map, box_file⟩
  have HG := Lib.hid hg
  clear ho hg
  go_enter Try.func14, Try.ntmps14
  go_upto_region 3 with (go_at_call 30; refine hm.mono ?_; rintro e w ⟨rfl, rfl⟩)
  refine wp_region_x (MRd b m w.heap.size i g L clk) [(0, 1), (1, 1), (2, 1), (3, 0), (4, 0), (5, 0), (6, 1), (7, 1)] (by kernel_rfl) (by kernel_rfl) (by intro d v c a w h; cases d <;> exact h) ?_
  iterate 3 (refine x_take rfl (fun K hK => ?_); go_simp; refine hK _ ?_; clear hK K)
  refine x_read rfl hS (fun w' h => exec_load1 scalarMap rfl h.c4) ?_
  refine x_read rfl hS (fun w' h => exec_loadA (aggF _ _) rfl h.box) ?_
  refine x_read rfl hS (fun w' h => exec_lookup keyF Try.underlying52 zeroO h.map rfl (i, g) rfl) ?_
  rw [HG.out]
  unfold enO
  have hf0 := fieldO0 md vr cl
  have hf1 := fieldO1 md vr cl
  iterate 2 (refine x_take rfl (fun K hK => ?_); go_simp; refine hK _ ?_; clear hK K)
  refine x_nil ?_
  go_wp2
  go_ret
  exact ⟨rfl, hb.drew⟩

/-! ### Changes of what is had of a file -/
def putG (G : Gs) (f : Fi) (o : Option One) : Gs := fun x => if x = f then o else G x
theorem upd_len {f : Fi} {v : Value} {L : Ents Fi} {clk : Nat} : (upd f v L clk).length ≤ L.length + 1 := by
  unfold upd
  split <;> simp
theorem del_len {f : Fi} {L : Ents Fi} : (del f L).length ≤ L.length := del_sub.length_le
theorem HAt.put (h : HAt w b m lb ph se bo L clk G wv W t u) (f : Fi) (o : One) {w' : World} (hw : w'.heap[m]? = some (.map (ents encF (upd f (enO o) L clk)) (updClk f L clk))) (hm : Mod (fun x => x = m) w w') : HAt w' b m lb ph se bo (upd f (enO o) L clk) (updClk f L clk) (putG G f (some o)) wv W t u := by
  refine ⟨hm.heap h.blk (fun e => h.bm e), h.lease.mod hm (fun e => h.ml e.symm), hw, h.wf.upd, fun x => ?_, h.wants.kept hm.size fun r hr => hm.block r (h.wants.lt hr) (fun e => (h.own r hr).2.1 e), h.bm, h.bl, h.ml, h.own⟩
  rw [get_upd h.wf]
  unfold putG
  split
  · rfl
  · exact h.get x
theorem HAt.wdel (h : HAt w b m lb ph se bo L clk G wv W t u) (f : Fi) {w' : World} (hw : w'.heap[m]? = some (.map (ents encF (del f L)) clk)) (hm : Mod (fun x => x = m) w w') : HAt w' b m lb ph se bo (del f L) clk (putG G f none) wv W t u := by
  refine ⟨hm.heap h.blk (fun e => h.bm e), h.lease.mod hm (fun e => h.ml e.symm), hw, h.wf.del, fun x => ?_, h.wants.kept hm.size fun r hr => hm.block r (h.wants.lt hr) (fun e => (h.own r hr).2.1 e), h.bm, h.bl, h.ml, h.own⟩
  rw [get_del h.wf]
  unfold putG
  split
  · rfl
  · exact h.get x
/-- Its own cells changed. -/
theorem HAt.turn {ph' se' bo' : Int} {wv' : Value} {W' : List Fi} (h : HAt w b m lb ph se bo L clk G wv W t u) {w' : World} (hb : w'.heap[b]? = some (.cells #[.pointer (some ⟨lb, 0, none⟩), .int .i64 ph', .int .u64 se', .int .u64 bo', .map (some m), wv'] 54 (0, 0))) (hm : Mod (fun x => x = b) w w') (hw : LOut enF 2 39 0 w' wv' W') (ho : ∀ r, wv'.ownBlock = some r → r ≠ b ∧ r ≠ m ∧ r ≠ lb) : HAt w' b m lb ph' se' bo' L clk G wv' W' t u :=
  ⟨hb, h.lease.mod hm (fun e => h.bl e.symm), hm.heap h.map (fun e => h.bm e.symm), h.wf, h.get, hw, h.bm, h.bl, h.ml, ho⟩
theorem HAt.same {ph' se' bo' : Int} (h : HAt w b m lb ph se bo L clk G wv W t u) {w' : World} (hb : w'.heap[b]? = some (.cells #[.pointer (some ⟨lb, 0, none⟩), .int .i64 ph', .int .u64 se', .int .u64 bo', .map (some m), wv] 54 (0, 0))) (hm : Mod (fun x => x = b) w w') : HAt w' b m lb ph' se' bo' L clk G wv W t u :=
  h.turn hb hm (h.wants.kept hm.size fun r hr => hm.block r (h.wants.lt hr) (fun e => (h.own r hr).1 e)) h.own
theorem HAt.wnone {ph' se' bo' : Int} (h : HAt w b m lb ph se bo L clk G wv W t u) {w' : World} (hb : w'.heap[b]? = some (.cells #[.pointer (some ⟨lb, 0, none⟩), .int .i64 ph', .int .u64 se', .int .u64 bo', .map (some m), .slice none 0 0] 54 (0, 0))) (hm : Mod (fun x => x = b) w w') : HAt w' b m lb ph' se' bo' L clk G (.slice none 0 0) [] t u :=
  h.turn hb hm (LOut.nil (Nat.zero_le _)) fun r hr => by cases hr

/-! ### Open -/
theorem open_no (h : HAt w b m lb ph se bo L clk G wv W t u) (boot : Int) (hp : ph ≠ 0 ∨ se = 0) : Calls Try.prog 19 #[.pointer (some ⟨b, 0, none⟩), .int .u64 boot] w
    fun e w' => e = .returned (.int .i64 2) ∧ w' = w := by
  have c2 := h.c2
  by_cases h0 : ph = 0
  · subst h0
    have h1 : se = 0 := by rcases hp with hp | hp; exact absurd rfl hp; exact hp
    subst h1
    have hm := must_yes h
    clear hp
    go_enter Try.func19, Try.ntmps19
    go_wp2_with (go_at_call 31; refine hm.mono ?_; rintro e w ⟨rfl, rfl⟩)
    go_ret
    exact ⟨rfl, rfl⟩
  · have hm := must_no h h0
    clear hp h0
    go_enter Try.func19, Try.ntmps19
    go_wp2_with (go_at_call 31; refine hm.mono ?_; rintro e w ⟨rfl, rfl⟩)
    go_ret
    exact ⟨rfl, rfl⟩
theorem open_yes (h : HAt w b m lb 0 se bo L clk G wv W t u) (boot : Int) (hs : se ≠ 0) : Calls Try.prog 19 #[.pointer (some ⟨b, 0, none⟩), .int .u64 boot] w
    fun e w' => e = .returned (.int .i64 0) ∧ HAt w' b m lb 2 se boot L clk G wv W t u ∧ Mod (fun x => x = b) w w' := by
  have c1 := h.c1
  have c2 := h.c2
  have c3 := h.c3
  have f1 := h.free (o := 1)
  have f3 := h.free (o := 3)
  have t1 : (se == 0) = false := by simpa using hs
  have hm := must_yes h
  clear hs
  have HH := Lib.hid h
  clear h
  go_enter Try.func19, Try.ntmps19
  go_wp2_with (go_at_call 31; refine hm.mono ?_; rintro e w ⟨rfl, rfl⟩)
  go_ret
  have hmod : Mod (fun x => x = b) w ((w.setCell ⟨b, 1, none⟩ (.int .i64 2)).setCell ⟨b, 3, none⟩ (.int .u64 boot)) := ((Mod.refl _ w).cell _ _).cell _ _
  exact ⟨rfl, HH.out.same (heap_setCell_at (heap_setCell_at HH.out.blk)) hmod, hmod⟩

/-! ### All -/
theorem all_any (h : HAt w b m lb ph se bo L clk G wv W t u) (hl : L.length ≤ 1000) : Calls Try.prog 10 #[.pointer (some ⟨b, 0, none⟩)] w
    fun e w' => ∃ v FL, e = .returned v ∧ (Srt FL ∧ (∀ f, f ∈ FL ↔ G f ≠ none) ∧ FL.length ≤ L.length) ∧ LRd enF 2 w.heap.size w' v FL ∧ Below w.heap.size w w' := by
  have c0 := h.c0
  have c4 := h.c4
  have hk := keys_call w m
  have hs := sortedFunc_call w m clk L h.map h.wf hl
  have HH := Lib.hid h
  clear h
  go_enter Try.func10, Try.ntmps10
  go_wp2_with (first
    | (go_at_call 30; refine (ok_any _ b lb c0).mono ?_; rintro e w ⟨rfl, rfl⟩)
    | fail)
  refine hk.mono ?_
  rintro e w' ⟨rfl, rfl⟩
  go_wp2_with fail
  refine hs.mono ?_
  rintro e w2 ⟨v, rfl, ⟨ss, hp, hR⟩, hb⟩
  go_wp2
  go_ret
  obtain ⟨h1, h2, h3⟩ := sortF_srt HH.out.wf hp
  refine ⟨v, _, rfl, ⟨h1, fun f => ?_, Nat.le_of_eq h3⟩, hR, hb⟩
  rw [h2 f, HH.out.get]
  cases G f <;> simp

/-! ### Lose -/
set_option maxRecDepth 20000 in
theorem lose_any (h : HAt w b m lb ph se bo L clk G wv W t u) (hl : L.length ≤ 1000) (s : Int) : Calls Try.prog 17 #[.pointer (some ⟨b, 0, none⟩), .int .u64 s] w
    fun e w' => (∃ v FL, e = .returned v ∧ (Srt FL ∧ (∀ f, f ∈ FL ↔ G f ≠ none) ∧ FL.length ≤ L.length) ∧ LRd enF 2 w.heap.size w' v FL) ∧ HAt w' b m lb 0 s 0 [] clk (fun _ => none) (.slice none 0 0) [] t 0 ∧ Mod (fun x => x = b ∨ x = m ∨ x = lb) w w' := by
  have c0 := h.c0
  have hall := all_any h hl
  have HH := Lib.hid h
  clear h
  go_enter Try.func17, Try.ntmps17
  go_wp2_with (first
    | (go_at_call 30; refine (ok_any _ b lb c0).mono ?_; rintro e w ⟨rfl, rfl⟩)
    | fail)
  refine hall.mono ?_
  rintro e w2 ⟨v, FL, rfl, hFL, hR, hb⟩
  have h2 := HH.out.below hb
  have H2 := Lib.hid h2
  have HF := Lib.hid hFL
  have HR := Lib.hid hR
  have d0 := h2.c0
  have d1 := h2.c1
  have d2 := h2.c2
  have d3 := h2.c3
  have d4 := h2.c4
  have d5 := h2.c5
  have f1 := h2.free (o := 1)
  have f2 := h2.free (o := 2)
  have f3 := h2.free (o := 3)
  have f5 := h2.free (o := 5)
  clear hall hFL hR h2 c0
  obtain ⟨w3, hw3⟩ : ∃ w3, (((w2.setCell ⟨b, 1, none⟩ (.int .i64 0)).setCell ⟨b, 2, none⟩ (.int .u64 s)).setCell ⟨b, 3, none⟩ (.int .u64 0)).setCell ⟨b, 5, none⟩ (.slice none 0 0) = w3 := ⟨_, rfl⟩
  have hmod : Mod (fun x => x = b) w2 w3 := by
    rw [← hw3]
    exact ((((Mod.refl _ w2).cell _ _).cell _ _).cell _ _).cell _ _
  have h3 : HAt w3 b m lb 0 s 0 L clk G (.slice none 0 0) [] t u := by
    refine H2.out.wnone ?_ hmod
    rw [← hw3]
    exact heap_setCell_at (heap_setCell_at (heap_setCell_at (heap_setCell_at H2.out.blk)))
  have H3 := Lib.hid h3
  have e0 := h3.c0
  have e4 := h3.c4
  have hmap := h3.map
  have HW3 := Lib.hid hw3
  have HM := Lib.hid hmod
  clear h3 hw3 hmod
  go_upto_region 5 with (fail)
  rw [HW3.out]
  clear d0 d1 d2 d3 d4 d5 f1 f2 f3 f5
  have h4 : HAt (setObjW w3 m (.map (ents encF ([] : Ents Fi)) clk)) b m lb 0 s 0 [] clk (fun _ => none) (.slice none 0 0) [] t u := by
    have hm4 := setObjW_mod (w := w3) m (.map (ents encF ([] : Ents Fi)) clk)
    exact ⟨hm4.heap H3.out.blk (fun e => H3.out.bm e), H3.out.lease.mod hm4 (fun e => H3.out.ml e.symm), setObjW_at H3.out.m_lt, WF.nil clk, fun _ => rfl, LOut.nil (Nat.zero_le _), H3.out.bm, H3.out.bl, H3.out.ml, fun r hr => by cases hr⟩
  have H4 := Lib.hid h4
  have HMAP := Lib.hid hmap
  clear h4 hmap
  go_upto_region 6 with (first
    | ((with_reducible refine wpList_exec rfl (exec_clearMap Try.underlying52 HMAP.out ?_) ?_); rfl; go_frame)
    | fail)
  have hm4 := setObjW_mod (w := w3) m (.map (ents encF ([] : Ents Fi)) clk)
  generalize setObjW w3 m (.map (ents encF ([] : Ents Fi)) clk) = w4 at *
  have HM4 := Lib.hid hm4
  have g0 := H4.out.c0
  clear hm4 e0 e4
  go_wp2_with fail
  refine (lapse_any w4 lb t u H4.out.lease).mono ?_
  rintro e w5 ⟨rfl, hl5, hm5⟩
  go_wp2
  go_ret
  have hM : Mod (fun x => x = b ∨ x = m ∨ x = lb) w w5 := (((((Mod.of_below hb).mono (T := fun x => x = b ∨ x = m ∨ x = lb) fun x hx hh => absurd hx (Nat.not_lt.2 hh)).trans HM.out (fun _ h => h) (fun _ _ h => .inl h)).trans HM4.out (fun _ h => h) (fun _ _ h => .inr (.inl h))).trans hm5 (fun _ h => h) (fun _ _ h => .inr (.inr h)))
  refine ⟨⟨_, _, rfl, HF.out, HR.out.kept (Nat.le_trans HM.out.size (Nat.le_trans HM4.out.size hm5.size)) fun r hr => ?_⟩, ⟨hm5.heap H4.out.blk (fun e => H4.out.bl e), hl5, hm5.heap H4.out.map (fun e => H4.out.ml e), H4.out.wf, H4.out.get, LOut.nil (Nat.zero_le _), H4.out.bm, H4.out.bl, H4.out.ml, fun r hr => by cases hr⟩, hM⟩
  have h1 := HR.out.lo r hr
  have h2 := HR.out.lt r hr
  have k1 := HH.out.b_lt
  have k2 := HH.out.m_lt
  have k3 := HH.out.l_lt
  have k4 := HM.out.size
  have k5 := HM4.out.size
  exact (hm5.block r (by omega) (by omega)).trans ((HM4.out.block r (by omega) (by omega)).trans (HM.out.block r h2 (by omega)))
end
end Go.Proofs.Ythckjciblngaaaa
