import Derived.Test.YtbdjkbaieokbhaaWh
import Derived.Test.YtbdjkbaieokbhaaOrd
import Derived.Deep.Cut
import Derived.Deep.CutBlock
namespace Go.Proofs.Ytbdjkbaieokbhaa
open Go.RowKit Go.Tn Go.Tn.Ghost

set_option maxHeartbeats 1000000 in
theorem of_any (w : World) (e : Evt) :
    Calls Try.prog 20 #[.agg (evArr e)] w fun en w' => en = .returned (.agg #[.int .i64 e.c, .int .i64 e.i, .int .i64 e.g, .int .i64 e.a]) ∧ Below w.heap.size w w' := by
  go_enter Try.func20, Try.ntmps20
  go_wp2
  refine bodyPost_ret (v := .agg #[.int .i64 e.c, .int .i64 e.i, .int .i64 e.g, .int .i64 e.a]) (by simp [results, Try.results20, go_sem]) rfl ⟨rfl, ?_⟩
  exact ((Below.refl _ _).alloc (Nat.le_refl _) _).alloc (by simp) _

theorem agg52T (p : Pl) : AggT Try.prog 52 (#[.int .i64 p.c, .int .i64 p.i, .int .i64 p.g, .int .i64 p.a] : Array Value).size := ⟨⟨_, Try.underlying52, rfl⟩, by kernel_rfl⟩
theorem scalar43 : ScalarT Try.prog 43 := ⟨⟨_, Try.underlying43, rfl⟩⟩

theorem Book.opened {B b bf bo bl co cl : Nat} {w w' : World} {S : St} {Lo Ll : Ents Pl} {p : Pl} {v : Value} {xs : List Nat} (h : Book B w b S bf bo bl Lo co Ll cl) (hB : B ≤ w.heap.size)
    (hb : w'.heap[bo]? = some (.map (ents encP (upd p v Lo co)) (updClk p Lo co))) (hv : Own1 w' 3 v (xs.map iv)) (hx : ∀ x ∈ xs, x < S.fates.length)
    (hloc : v.ownBlock = (getD p Lo nilS).ownBlock ∨ ∃ r, v.ownBlock = some r ∧ w.heap.size ≤ r) (hm : Mod (fun x => x = bo ∨ (getD p Lo nilS).ownBlock = some x) w w') :
    Book B w' b { S with op := updF S.op p xs } bf bo bl (upd p v Lo co) (updClk p Lo co) Ll cl := by
  obtain ⟨n1, n2, n3, n4, n5, n6⟩ := h.rows
  have hg : ∀ q, getD q (upd p v Lo co) nilS = if q = p then v else getD q Lo nilS := fun q => by
    unfold getD
    rw [get_upd h.o.wf]
    split <;> rfl
  have keep : ∀ x, x < w.heap.size → x ≠ bo → (getD p Lo nilS).ownBlock ≠ some x → w'.heap[x]? = w.heap[x]? := fun x h1 h2 h3 => hm.block x h1 (fun e => e.elim h2 h3)
  refine ⟨?_, ?_, ?_, ?_, h.nbf, h.nol, ?_, h.rowL, h.lo, ?_, h.rL⟩
  · exact (keep b (lt_of_block h.blk) n1 (fun e => (n5 p b e).1 rfl)).trans h.blk
  · exact (keep bf (lt_of_block h.fts) n3 (fun e => (h.rowO p bf e).2.1 rfl)).trans h.fts
  · exact h.o.stored hb hv hloc (fun q hq r hr => keep r (Own1.lt (h.o.own q) hr) (n5 q r hr).2.1 (fun e => h.o.apart p q (Ne.symm hq) r e hr))
  · exact h.l.kept (keep bl (lt_of_block h.l.blk) (fun e => h.nol e.symm) (fun e => (n5 p bl e).2.2 rfl)) (fun q r hr => keep r (Own1.lt (h.l.own q) hr) (n6 q r hr).2.1 (fun e => (h.rowO p r e).2.2 q hr))
  · intro q r hr
    rw [hg] at hr
    split at hr
    · rcases hloc with hl | ⟨r', hl, hle⟩
      · exact h.rowO p r (hl ▸ hr)
      · rw [hr] at hl; cases hl
        exact ⟨by omega, fun e => by have := lt_of_block h.fts; omega, fun q' e => by have := Own1.lt (h.l.own q') e; omega⟩
    · exact h.rowO q r hr
  · intro q x hq
    simp only [updF] at hq
    split at hq
    · exact hx x hq
    · exact h.rO q x hq

theorem Book.fate {B b bf bo bl co cl : Nat} {w : World} {S : St} {Lo Ll : Ents Pl} (h : Book B w b S bf bo bl Lo co Ll cl) (i : Nat) (v : Int) : Book B (w.setCell ⟨bf, i, none⟩ (zv v)) b { S with fates := S.fates.set i v } bf bo bl Lo co Ll cl := by
  refine h.settled (by simp) ?_ ((Mod.refl _ w).setCell _ _ (fun _ => rfl))
  rw [heap_setCell_at h.fts]
  congr 2
  simp

set_option maxHeartbeats 1000000 in
theorem take_any (B : Nat) (w : World) (b : Nat) (S : St) (bf bo bl : Nat) (Lo : Ents Pl) (co : Nat) (Ll : Ents Pl) (cl : Nat) (h : Book B w b S bf bo bl Lo co Ll cl) (k : Nat) (e : Evt) (hk : k < S.fates.length) (hkm : S.fates.length ≤ 60) (hsz : ∀ p, (S.op p).length + (S.li p).length ≤ 900) (hB : B ≤ w.heap.size) :
    Calls Try.prog 17 #[.pointer (some ⟨b, 0, none⟩), .int .i64 k, .agg (evArr e)] w fun en w' => en = .returned (.tuple #[]) ∧
      (∃ S' Lo' co' Ll' cl', Step k e S S' ∧ Book B w' b S' bf bo bl Lo' co' Ll' cl') ∧ Below B w w' := by
  have hl1 : Lies (w.alloc (.cells (evArr e) 39)) w.heap.size 0 (evArr e) := lies_of heap_alloc_at
  go_enter Try.func17, Try.ntmps17
  go_wp2_with (first
    | ((with_reducible refine wpList_loadA (agg39 e) hl1 ?_ ?_); rfl)
    | fail)
  refine (of_any _ e).mono ?_
  rintro en w1 ⟨rfl, hb1⟩
  have hz1 : w.heap.size + 1 ≤ w1.heap.size := by simpa using hb1.size
  have hbk1 : Book B w1 b S bf bo bl Lo co Ll cl := (h.alloc (.cells (evArr e) 39)).of_mod (Mod.of_below hb1) (fun _ hx => .inr hx)
  have q0 : w1.cell? ⟨w.heap.size, 0, none⟩ = some (.int .i64 e.k) := (hb1.cell (p := ⟨w.heap.size, 0, none⟩) (by simp)).trans (World.cell?_alloc_at (evArr e) 39 w.heap.size 0 (w := w) rfl)
  have q1 : w1.cell? ⟨w.heap.size, 1, none⟩ = some (.int .i64 e.c) := (hb1.cell (p := ⟨w.heap.size, 1, none⟩) (by simp)).trans (World.cell?_alloc_at (evArr e) 39 w.heap.size 1 (w := w) rfl)
  have hbel1 : Below B w w1 := ((Below.refl B w).alloc hB _).trans (hb1.mono (by simp; omega))
  have hbk2 := hbk1.alloc (.cells #[.int .i64 e.c, .int .i64 e.i, .int .i64 e.g, .int .i64 e.a] 52)
  have hbel2 := hbel1.alloc (by omega) (.cells #[.int .i64 e.c, .int .i64 e.i, .int .i64 e.g, .int .i64 e.a] 52)
  have hbx2 : (w1.alloc (.cells #[.int .i64 e.c, .int .i64 e.i, .int .i64 e.g, .int .i64 e.a] 52)).heap[w1.heap.size]? = _ := heap_alloc_at
  have hltw : w.heap.size < w1.heap.size := by omega
  clear hb1 hl1 hbk1 hbel1 h
  by_cases h3 : e.k = 3
  · have t3 : (e.k == 3) = true := by simpa using h3
    have HS := Lib.hid (fun S' => show Step k e S S' = (S' = write k (plOf e) S) by simp [Step, h3])
    clear h3
    have hkl : (k : Int) < (S.fates.length : Int) := by omega
    go_upto_region 4 with (fail)
    generalize (w1.alloc (.cells #[.int .i64 e.c, .int .i64 e.i, .int .i64 e.g, .int .i64 e.a] 52)) = w2 at *
    obtain ⟨c0, c1, c2⟩ := hbk2.cells
    obtain ⟨old, hold⟩ : ∃ old, w2.cell? ⟨bf, k, none⟩ = some (.int .i64 old) := ⟨S.fates[k], cell_of hbk2.fts (by simp [hk])⟩
    have hfree : w2.frozen? ⟨bf, k, none⟩ = false := free_of hbk2.fts
    have hbk3 := hbk2.fate k 1
    have hn6 : w1.heap.size ≠ bf := fun hx => by
      have := hbk2.fts; rw [← hx, hbx2] at this; simp at this
    have hbx3 : (w2.setCell ⟨bf, k, none⟩ (zv 1)).heap[w1.heap.size]? = _ := heap_setCell_of hbx2 hn6
    have hbel3 : Below B w (w2.setCell ⟨bf, k, none⟩ (zv 1)) := hbel2.setCell hbk2.lo.2.1 _
    go_wp2
    have hlt2 := hbel3.size
    generalize (w2.setCell ⟨bf, k, none⟩ (zv 1)) = w3 at *
    obtain ⟨d0, d1, d2⟩ := hbk3.cells
    refine wp_region_x (fun w' => w'.cell? ⟨b, 1, none⟩ = some (.map (some bo)) ∧ Lies w' w1.heap.size 0 #[.int .i64 e.c, .int .i64 e.i, .int .i64 e.g, .int .i64 e.a]) [(0, 1), (1, 1), (2, 1), (3, 0), (4, 0), (5, 1), (6, 2), (7, 3), (8, 1), (10, 1), (9, 3), (11, 3)] (by kernel_rfl) (by kernel_rfl) (by intro d v c a w h; cases d <;> exact h) ?_
    iterate 3 (refine x_take rfl (fun K hK => ?_); go_simp; refine hK _ ?_; clear hK K)
    refine x_read rfl ⟨d1, lies_of hbx3⟩ (fun w' h => exec_load1 scalar43 rfl h.1) ?_
    refine x_read rfl ⟨d1, lies_of hbx3⟩ (fun w' h => exec_loadA (agg52T (plOf e)) rfl h.2) ?_
    refine x_take rfl (fun K hK => ?_); go_simp; refine hK _ ?_; clear hK K
    obtain ⟨i0, hi0, hz0, hz1', hz2⟩ := info_parts info3
    have hbk4 := hbk3.drew.alloc (.cells #[.int .i64 k] 3)
    have hu : Own1 (w3.drew.alloc (.cells #[.int .i64 k] 3)) 3 (.slice (some ⟨w3.drew.heap.size, 0, none⟩) 1 1) ([k].map iv) := Own1.lit (by unfold maxLen; simp)
    have hbel4 := hbel3.drew.alloc (by show B ≤ w3.heap.size; omega) (.cells #[.int .i64 k] 3)
    refine x_show rfl (exec_buildSlice1 Try.underlying23 hi0 hz0 hz1' rfl (v := .int .i64 k) rfl rfl) ⟨hbk4.cells.2.1, lies_of (heap_alloc_of (w := w3.drew) hbx3)⟩ ?_
    refine x_tail (by kernel_rfl) ?_
    simp only [List.filterMap_cons, List.filterMap_nil, List.getElem?_toArray, List.getElem?_cons_succ, List.getElem?_cons_zero]
    have hk' : Own1 (w3.drew.alloc (.cells #[.int .i64 k] 3)) 3 (getD (plOf e) Lo nilS) ((S.op (plOf e)).map iv) := hbk4.o.own (plOf e)
    (with_reducible refine list_mapAppend hbk4.o.blk hbk4.o.wf (plOf e) hk' hu ?_ (N := 47) ?_ ?_ ?_ ?_ (by decide) ?_)
    · have := hsz (plOf e); simp; omega
    · rfl
    · rfl
    · rfl
    · rfl
    intro st v w5 hb5 hv5 hloc hm5
    have hbk5 := hbk4.opened (by simp; omega) hb5 hv5 (fun x hx => by
      rcases List.mem_append.1 hx with hx | hx
      · exact hbk4.rO (plOf e) x hx
      · simp at hx; subst hx; simpa using hk) hloc hm5
    have hbel5 : Below B w w5 := hbel4.trans (hm5.below (by simp; omega) (fun x hx he => by
      rcases he with he | he
      · have := hbk4.lo.2.2.1; omega
      · have := (hbk4.rowO _ x he).1; omega))
    clear hm5 hloc hv5 hb5
    refine wpList_nil ?_
    go_end0
    exact ⟨rfl, ⟨write k (plOf e) S, upd (plOf e) v Lo co, updClk (plOf e) Lo co, Ll, cl, by rw [HS.out], hbk5⟩, hbel5⟩
  · have t3 : (e.k == 3) = false := by simpa using h3
    by_cases h4 : e.k = 4
    · have t4 : (e.k == 4) = true := by simpa using h4
      have HS := Lib.hid (fun S' => show Step k e S S' = (S' = back (plOf e) S) by simp [Step, h4])
      clear h3 h4
      go_wp2_with fail
      refine (back_any B _ b S bf bo bl Lo co Ll cl hbk2 (plOf e) (by simp; omega)).mono ?_
      rintro en w3 ⟨rfl, ⟨Lo', co', Ll', cl', hbk3⟩, hbel3⟩
      go_wp2
      go_end0
      exact ⟨rfl, ⟨_, Lo', co', Ll', cl', by rw [HS.out], hbk3⟩, hbel2.trans hbel3⟩
    · have t4 : (e.k == 4) = false := by simpa using h4
      by_cases h5 : e.k = 5
      · have t5 : (e.k == 5) = true := by simpa using h5
        have HS := Lib.hid (fun S' => show Step k e S S' = (S' = lose (plOf e) S) by simp [Step, h5])
        clear h3 h4 h5
        go_wp2_with fail
        refine (lose_any B _ b S bf bo bl Lo co Ll cl hbk2 (plOf e) (by have := hsz (plOf e); omega) (by simp; omega)).mono ?_
        rintro en w3 ⟨rfl, ⟨Ll', cl', hbk3⟩, hm3⟩
        have hbel3 := hbk2.lose_below (by simp; omega) hm3
        go_wp2
        go_end0
        exact ⟨rfl, ⟨_, _, _, Ll', cl', by rw [HS.out], hbk3⟩, hbel2.trans hbel3⟩
      · have t5 : (e.k == 5) = false := by simpa using h5
        by_cases h8 : e.k = 8 ∨ e.k = 9
        · have HS := Lib.hid (fun S' => show Step k e S S' = Crashed e.c S S' by simp [Step, h3, h4, h5, h8])
          clear h3 h4 h5
          rcases h8 with h8 | h8
          · have t8 : (e.k == 8) = true := by simpa using h8
            clear h8
            go_wp2_with fail
            refine (crash_any B _ b S bf bo bl Lo co Ll cl hbk2 e.c (fun p => by have := hsz p; omega) (by simp; omega)).mono ?_
            rintro en w3 ⟨rfl, ⟨S', Lo', Ll', cl', hcr, hbk3⟩, hbel3⟩
            go_wp2
            go_end0
            exact ⟨rfl, ⟨S', Lo', _, Ll', cl', by rw [HS.out]; exact hcr, hbk3⟩, hbel2.trans hbel3⟩
          · have t8 : (e.k == 8) = false := by simp [h8]
            have t9 : (e.k == 9) = true := by simpa using h8
            clear h8
            go_wp2_with fail
            refine (crash_any B _ b S bf bo bl Lo co Ll cl hbk2 e.c (fun p => by have := hsz p; omega) (by simp; omega)).mono ?_
            rintro en w3 ⟨rfl, ⟨S', Lo', Ll', cl', hcr, hbk3⟩, hbel3⟩
            go_wp2
            go_end0
            exact ⟨rfl, ⟨S', Lo', _, Ll', cl', by rw [HS.out]; exact hcr, hbk3⟩, hbel2.trans hbel3⟩
        · have HS := Lib.hid (fun S' => show Step k e S S' = (S' = S) by simp [Step, h3, h4, h5, h8])
          simp only [not_or] at h8
          have t8 : (e.k == 8) = false := by simpa using h8.1
          have t9 : (e.k == 9) = false := by simpa using h8.2
          clear h3 h4 h5 h8
          go_wp2
          go_end0
          exact ⟨rfl, ⟨S, _, _, _, _, by rw [HS.out], hbk2⟩, hbel2⟩

end Go.Proofs.Ytbdjkbaieokbhaa
