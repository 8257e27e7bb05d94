/- The document's take: homes are as a transaction says; walked. -/
import Derived.Test.YtmakpbjknklpiaaGreatMgRpl30
import Derived.Test.YtmakpbjknklpiaaGreatMgRpl15
import Derived.Test.YtmakpbjknklpiaaGreatMgRpl14
/- The document's log in memory; Free, Home, Sync, walked. -/
namespace Go.Proofs.YtmakpbjknklpiaaGreat
open Go.RowKit Go.Tn Go.Tn.Bt Go.Tn.Lp Go.Tn.Dk
structure RLg (w : World) (S F : Nat → Prop) (g p : Nat) (l : Lg) (N : Nat) : Prop where
  ex : ∃ (hv : Value) (xs : List (List Nat × Sv)), w.heap[g]? = some (.cells #[.pointer (some ⟨p, 0, none⟩), .int .i64 (l.n : Nat), .int .u64 (l.epoch : Nat), .int .u64 (l.gen : Nat), .int .u64 (l.tail : Nat), .int .u64 (l.next : Nat), hv, .int .i64 (l.err : Nat)] 52 (0, 0)) ∧
    LOut enB 1 53 0 w hv xs ∧ xs.length = N ∧ (∀ k x, xs[k]? = some x → x.1 = (l.H k).getD [] ∧ Dat w S x.2 x.1) ∧ ∀ k, hv.ownBlock = some k → k ≠ g ∧ F k
  fg : F g
  fs : ∀ b, F b → S b
  lt : ∀ b, S b → b < w.heap.size
theorem RLg.turn {w w' : World} {S S' F G : Nat → Prop} {g p N : Nat} {l : Lg} (h : RLg w S F g p l N) (hm : Mod G w w') (hG : ∀ b, G b → S b) (hF : ∀ b, F b → ¬ G b) (hS : ∀ b, S' b → S b ∨ w.heap.size ≤ b) (hFS : ∀ b, F b → S' b) (hlt : ∀ b, S' b → b < w'.heap.size) : RLg w' S' F g p l N := by
  obtain ⟨hv, xs, h1, h2, h3, h4, h5⟩ := h.ex
  have kb : ∀ b, F b → w'.heap[b]? = w.heap[b]? := fun b hb => hm.block b (h.lt b (h.fs b hb)) (hF b hb)
  exact ⟨⟨hv, xs, (kb g h.fg).trans h1, h2.kept hm.size fun r hr => kb r (h5 r hr).2, h3, fun k x hx => ⟨(h4 k x hx).1, (h4 k x hx).2.turn hm hG hS⟩, h5⟩, h.fg, hFS, hlt⟩
theorem RLg.below {w w' : World} {S F : Nat → Prop} {g p N : Nat} {l : Lg} (h : RLg w S F g p l N) (hb : Below w.heap.size w w') : RLg w' S F g p l N :=
  h.turn (mod0 hb) (fun _ h => h.elim) (fun _ _ h => h) (fun _ h => .inl h) h.fs fun b hb' => Nat.lt_of_lt_of_le (h.lt b hb') hb.size
theorem RLg.sub {w : World} {S S' F : Nat → Prop} {g p N : Nat} {l : Lg} (h : RLg w S F g p l N) (hS : ∀ b, S' b → S b) (hFS : ∀ b, F b → S' b) : RLg w S' F g p l N :=
  h.turn (G := fun _ => False) (Mod.refl _ _) (fun _ h => h.elim) (fun _ _ h => h) (fun b hb => .inl (hS b hb)) hFS fun b hb => h.lt b (hS b hb)
/-- Numbers of the log turned. -/
theorem RLg.nums {w w' : World} {S F : Nat → Prop} {g p N : Nat} {l l' : Lg} (h : RLg w S F g p l N) (hH : l'.H = l.H) (hm : Mod (fun b => b = g) w w')
    (hh : ∀ hv, w.heap[g]? = some (.cells #[.pointer (some ⟨p, 0, none⟩), .int .i64 (l.n : Nat), .int .u64 (l.epoch : Nat), .int .u64 (l.gen : Nat), .int .u64 (l.tail : Nat), .int .u64 (l.next : Nat), hv, .int .i64 (l.err : Nat)] 52 (0, 0)) →
      w'.heap[g]? = some (.cells #[.pointer (some ⟨p, 0, none⟩), .int .i64 (l'.n : Nat), .int .u64 (l'.epoch : Nat), .int .u64 (l'.gen : Nat), .int .u64 (l'.tail : Nat), .int .u64 (l'.next : Nat), hv, .int .i64 (l'.err : Nat)] 52 (0, 0))) : RLg w' S F g p l' N := by
  obtain ⟨hv, xs, h1, h2, h3, h4, h5⟩ := h.ex
  have hG : ∀ b, b = g → S b := fun b hb => hb ▸ h.fs g h.fg
  refine ⟨⟨hv, xs, hh hv h1, h2.kept hm.size fun r hr => hm.block r (h.lt r (h.fs r (h5 r hr).2)) (h5 r hr).1, h3, fun k x hx => ⟨?_, (h4 k x hx).2.turn hm hG fun _ h => .inl h⟩, h5⟩, h.fg, h.fs, fun b hb => Nat.lt_of_lt_of_le (h.lt b hb) hm.size⟩
  rw [hH]
  exact (h4 k x hx).1
set_option maxRecDepth 20000 in
theorem zfree_any {w : World} {S F : Nat → Prop} {g p N : Nat} {l : Lg} (h : RLg w S F g p l N) (h1 : l.tail ≤ l.next) (h2 : l.next ≤ l.tail + l.n) (h3 : l.n ≤ 4096) (h4 : l.next < 2 ^ 63) : Calls Tryz.prog 23 #[.pointer (some ⟨g, 0, none⟩)] w
    fun e w' => e = .returned (.int .i64 (l.free : Nat)) ∧ Below w.heap.size w w' := by
  obtain ⟨hv, xs, hh, -⟩ := h.ex
  have c1 := cell_of (o := 1) hh rfl
  have c4 := cell_of (o := 4) hh rfl
  have c5 := cell_of (o := 5) hh rfl
  unfold Lg.free
  generalize l.n = n at *
  generalize l.tail = t at *
  generalize l.next = x at *
  obtain ⟨q, hq⟩ : ∃ q, x - t = q := ⟨_, rfl⟩
  have hw1 : IntKind.u64.wrap ((x : Int) - (t : Int)) = ((q : Nat) : Int) := by rw [IntWalk.u64_in _ (by omega)]; omega
  have hw2 : IntKind.i64.wrap ((q : Nat) : Int) = ((q : Nat) : Int) := IntWalk.i64_in _ (by omega)
  have hw3 : IntKind.i64.wrap ((n : Int) - ((q : Nat) : Int)) = ((n - q : Nat) : Int) := by rw [IntWalk.i64_in _ (by omega)]; omega
  rw [hq]
  have hS : w.drew.cell? ⟨g, 1, none⟩ = some (.int .i64 (n : Nat)) ∧ w.drew.cell? ⟨g, 5, none⟩ = some (.int .u64 (x : Nat)) ∧ w.drew.cell? ⟨g, 4, none⟩ = some (.int .u64 (t : Nat)) := ⟨c1, c5, c4⟩
  clear h hh h1 h2 h3 h4 hq c1 c4 c5
  go_enter Tryz.func23, Tryz.ntmps23
  go_upto_region 1 with fail
  refine wp_region_x (fun w' => w'.cell? ⟨g, 1, none⟩ = some (.int .i64 (n : Nat)) ∧ w'.cell? ⟨g, 5, none⟩ = some (.int .u64 (x : Nat)) ∧ w'.cell? ⟨g, 4, none⟩ = some (.int .u64 (t : Nat))) [(0, 1), (1, 1), (2, 1), (3, 0), (4, 1), (5, 1), (6, 1), (7, 0), (8, 1), (9, 1), (10, 1), (11, 0), (12, 1), (13, 1), (14, 1), (15, 1)] (by kernel_rfl) (by kernel_rfl) (by intro d v c a w h; cases d <;> exact h) ?_
  iterate 3 (refine x_take rfl (fun K hK => ?_); go_simp; refine hK _ ?_; clear hK K)
  refine x_read rfl hS (fun w' h => exec_load1 ⟨⟨_, Tryz.underlying3, rfl⟩⟩ rfl h.1) ?_
  iterate 3 (refine x_take rfl (fun K hK => ?_); go_simp; refine hK _ ?_; clear hK K)
  refine x_read rfl hS (fun w' h => exec_load1 ⟨⟨_, Tryz.underlying49, rfl⟩⟩ rfl h.2.1) ?_
  iterate 3 (refine x_take rfl (fun K hK => ?_); go_simp; refine hK _ ?_; clear hK K)
  refine x_read rfl hS (fun w' h => exec_load1 ⟨⟨_, Tryz.underlying49, rfl⟩⟩ rfl h.2.2) ?_
  iterate 4 (refine x_take rfl (fun K hK => ?_); go_simp; refine hK _ ?_; clear hK K)
  refine x_nil ?_
  clear hS hw1 hw2 hw3
  go_wp2
  go_ret
  exact ⟨rfl, (Below.refl _ _).drew⟩
set_option maxRecDepth 20000 in
set_option maxHeartbeats 4000000 in
theorem zhome_any {w : World} {S F FD : Nat → Prop} {g p N : Nat} {l : Lg} {d : Dsk} (h : RLg w S F g p l N) (hd : RDk w S FD p d) (hok : ∀ k b, l.H k = some b → b.length = 128) (i : Nat) (hi : i < N) (hN : 2 + l.n + N ≤ d.L.length) : Calls Tryz.prog 28 #[.pointer (some ⟨g, 0, none⟩), .int .i64 i] w
    fun e w' => (∃ s, e = .returned (sv s) ∧ Dat w S s (l.home d i)) ∧ Below w.heap.size w w' := by
  obtain ⟨hv, xs, hh, h2, h3, h4, h5⟩ := h.ex
  have hhi := hd.ok.hi
  obtain ⟨x, hx⟩ : ∃ x, xs[i]? = some x := ⟨_, List.getElem?_eq_getElem (by omega)⟩
  obtain ⟨hx1, hx2⟩ := h4 i x hx
  obtain ⟨b, off, cap, rfl, hb, hl⟩ := (h2.sl elB.len).at_ hx
  have c0 := cell_of (o := 0) hh rfl
  have c1 := cell_of (o := 1) hh rfl
  have c6 := cell_of (o := 6) hh rfl
  have hcx : w.cell? ⟨b, off + i, none⟩ = some (sv x.2) := by
    have := hl 0 (by simp [enB])
    simpa [enB] using this
  obtain ⟨xb, ⟨xa, xn, xc⟩⟩ := x
  obtain ⟨xo, xcap, hxv, q1, q2, -⟩ := id hx2.rd
  obtain ⟨rfl, rfl, rfl⟩ : xa = xo ∧ xn = xb.length ∧ xc = xcap := by simpa [sv] using hxv
  unfold maxLen at q2
  simp only [sv] at hcx hx1 hx2
  simp only at q1
  have hix : (i : Int) < (xs.length : Int) := by omega
  have hxs63 : (xs.length : Int) ≤ 4096 := by omega
  have hxb63 : (xb.length : Int) ≤ 9223372036854775807 := by omega
  cases hH : l.H i with
  | some bs =>
    have hbs := hok i bs hH
    have e1 : l.home d i = xb := by unfold Lg.home; rw [hH, hx1, hH]; rfl
    have hxl : xb.length = 128 := by rw [hx1, hH]; exact hbs
    have hpos : decide ((0 : Int) < (xb.length : Int)) = true := decide_eq_true (by omega)
    have hpos' : decide (0 < xb.length) = true := decide_eq_true (by omega)
    rw [e1]
    have HX := Lib.hid hx2
    clear h hd hok hH e1 hxl hbs hx1 hx2 hl hx h2 h3 h4 h5 hh hxv
    go_enter Tryz.func28, Tryz.ntmps28
    go_wp2
    go_ret
    exact ⟨⟨(xa, xb.length, xc), rfl, HX.out⟩, Below.refl _ _⟩
  | none =>
    have e1 : l.home d i = d.get (2 + l.n + i) := by unfold Lg.home; rw [hH]
    have hxl : xb = [] := by rw [hx1, hH]; rfl
    subst hxl
    have his := xis_any (hd.below (Below.refl _ w).drew) (2 + l.n + i) (by omega)
    rw [e1]
    generalize l.n = n at *
    have hni : ((2 + n + i : Nat) : Int) = 2 + (n : Int) + (i : Int) := by omega
    rw [hni] at his
    have hw1 : IntKind.i64.wrap (2 + (n : Int)) = 2 + (n : Int) := IntWalk.i64_in _ (by omega)
    have hw2 : IntKind.i64.wrap (2 + (n : Int) + (i : Int)) = 2 + (n : Int) + (i : Int) := IntWalk.i64_in _ (by omega)
    have hS : w.drew.cell? ⟨g, 0, none⟩ = some (.pointer (some ⟨p, 0, none⟩)) ∧ w.drew.cell? ⟨g, 1, none⟩ = some (.int .i64 (n : Nat)) := ⟨c0, c1⟩
    clear h hd hok hH e1 hx1 hx2 hl hx h2 h3 h4 h5 hh hxv hni
    go_enter Tryz.func28, Tryz.ntmps28
    go_upto_region 3 with fail
    refine wp_region_x (fun w' => w'.cell? ⟨g, 0, none⟩ = some (.pointer (some ⟨p, 0, none⟩)) ∧ w'.cell? ⟨g, 1, none⟩ = some (.int .i64 (n : Nat))) [(0, 1), (1, 1), (2, 1), (3, 0), (4, 1), (5, 1), (6, 1), (7, 0), (8, 1), (9, 1), (10, 1), (11, 2), (12, 1)] (by kernel_rfl) (by kernel_rfl) (by intro d v c a w h; cases d <;> exact h) ?_
    iterate 3 (refine x_take rfl (fun K hK => ?_); go_simp; refine hK _ ?_; clear hK K)
    refine x_read rfl hS (fun w' h => exec_load1 ⟨⟨_, Tryz.underlying28, rfl⟩⟩ rfl h.1) ?_
    iterate 3 (refine x_take rfl (fun K hK => ?_); go_simp; refine hK _ ?_; clear hK K)
    refine x_read rfl hS (fun w' h => exec_load1 ⟨⟨_, Tryz.underlying3, rfl⟩⟩ rfl h.2) ?_
    iterate 3 (refine x_take rfl (fun K hK => ?_); go_simp; refine hK _ ?_; clear hK K)
    refine x_show' rfl (fun K hK => ?_)
    go_simp
    refine his.mono ?_
    rintro e w2 ⟨⟨s, rfl, hs⟩, hw⟩
    obtain rfl := hw.symm
    obtain ⟨s1, s2, s3⟩ := s
    refine hK _ _ hS ?_
    clear hK K hw
    iterate 1 (refine x_take rfl (fun K hK => ?_); go_simp; refine hK _ ?_; clear hK K)
    refine x_nil ?_
    have HS := Lib.hid hs
    clear hs hS his hw1 hw2
    go_wp2
    go_ret
    exact ⟨⟨(s1, s2, s3), rfl, ⟨HS.out.rd, HS.out.out⟩⟩, (Below.refl _ _).drew⟩
set_option maxRecDepth 20000 in
set_option maxHeartbeats 4000000 in
theorem zsync_any {w : World} {S F FD : Nat → Prop} {g p N : Nat} {l : Lg} {d : Dsk} (h : RLg w S F g p l N) (hd : RDk w S FD p d) (hap : ∀ b, F b → ¬ FD b) (herr : l.err < 256) : Calls Tryz.prog 14 #[.pointer (some ⟨g, 0, none⟩)] w
    fun e w' => e = .returned (.int .i64 ((l.sync d).1.err : Nat)) ∧ RLg w' S F g p (l.sync d).1 N ∧ RDk w' S FD p (l.sync d).2 ∧ Mod (fun b => F b ∨ FD b) w w' := by
  have hfl := xflush_any hd
  obtain ⟨hv, xs, hh, -⟩ := h.ex
  have c0 := cell_of (o := 0) hh rfl
  have c7 := cell_of (o := 7) hh rfl
  have HL := Lib.hid h
  have HD := Lib.hid hd
  have HAP := Lib.hid hap
  clear h hd hap hh
  by_cases he : l.err = 0
  · have e1 : l.sync d = ({ l with err := d.dead }, d.flush) := by unfold Lg.sync; rw [if_neg (by simp [he])]
    have c7' : w.cell? ⟨g, 7, none⟩ = some (.int .i64 0) := by rw [c7, he]; rfl
    clear c7
    rw [e1]
    obtain ⟨D, hD⟩ : ∃ D, d.dead = D := ⟨_, rfl⟩
    rw [hD] at hfl ⊢
    clear e1 herr hD he
    go_enter Tryz.func14, Tryz.ntmps14
    go_wp2_with (first
      | (go_at_call 62; refine hfl.mono ?_; rintro e w2 ⟨rfl, hD2, hm2⟩; have hL2 := HL.out.turn hm2 HD.out.fs HAP.out (fun _ h => .inl h) HL.out.fs (fun b hb => Nat.lt_of_lt_of_le (HL.out.lt b hb) hm2.size); have HD2 := Lib.hid hD2; have HM2 := Lib.hid hm2; have HL2 := Lib.hid hL2; obtain ⟨hv2, xs2, hh2, -⟩ := hL2.ex; have d7 := cell_of (o := 7) hh2 rfl; have g7 := free_of (o := 7) hh2; have HH2 := Lib.hid hh2; clear hD2 hm2 hL2 hh2 hfl; go_frame)
      | fail)
    go_ret
    have hm3 : Mod (fun b => b = g) w2 (w2.setCell ⟨g, 7, none⟩ (.int .i64 (D : Nat))) := (Mod.refl _ _).setCell _ _ fun _ => rfl
    have hgF : F g := HL.out.fg
    refine ⟨rfl, HL2.out.nums (l' := { l with err := D }) rfl hm3 fun hv hh => (heap_setCell_at (o := 7) (v := .int .i64 (D : Nat)) hh).trans (by simp), HD2.out.turn hm3 (fun b hb => hb ▸ HL.out.fs g hgF) (fun b hb e => HAP.out g hgF (e ▸ hb)) (fun _ h => .inl h) HD2.out.fs fun b hb => Nat.lt_of_lt_of_le (HD2.out.lt b hb) hm3.size, HM2.out.trans hm3 (fun _ h => .inr h) fun x _ hx => .inl (hx ▸ hgF)⟩
  · have e1 : l.sync d = (l, d) := by unfold Lg.sync; rw [if_pos he]
    rw [e1]
    have hne : (((l.err : Nat) : Int) == 0) = false := by rw [beq_eq_false_iff_ne]; omega
    clear e1 he
    go_enter Tryz.func14, Tryz.ntmps14
    go_wp2
    go_ret
    exact ⟨rfl, HL.out, HD.out, Mod.refl _ _⟩
end Go.Proofs.YtmakpbjknklpiaaGreat

/- The document's take: homes are as a transaction says; walked. -/
namespace Go.Proofs.YtmakpbjknklpiaaGreat
open Go.RowKit Go.Tn Go.Tn.Bt Go.Tn.Lp Go.Tn.Dk
set_option maxRecDepth 20000 in
set_option maxHeartbeats 4000000 in
theorem ztake_any {w : World} {S F : Nat → Prop} {g p N : Nat} {l : Lg} (h : RLg w S F g p l N) (v : Value) (ps : List Pt) (hp : PtsA w F v ps) (ht : transB ps N = true) (hN : N ≤ 4096) : Calls Tryz.prog 43 #[.pointer (some ⟨g, 0, none⟩), v] w
    fun e w' => e = .returned (.tuple #[]) ∧ RLg w' S F g p { l with H := takeH l.H ps } N ∧ Mod F w w' := by
  obtain ⟨t1, t2, t3, -⟩ := (transB_iff ps N).1 ht
  obtain ⟨ys, hys, hyL, hyo, hyD⟩ := hp
  have hyl : ys.length = ps.length := by rw [← hys]; simp
  obtain ⟨va, vc, rfl, v1, v2, v3⟩ := hyL
  rw [hyl] at v1 v3 hyo ⊢
  unfold maxLen at v2
  obtain ⟨hv, xs, hh, h2, h3, h4, h5⟩ := h.ex
  have hN0 : 0 < N := by
    obtain ⟨q, hq⟩ : ∃ q, ps[0]? = some q := ⟨_, List.getElem?_eq_getElem (by omega)⟩
    have := t3 q (List.mem_of_getElem? hq)
    have h1 := this.1
    have h2 := this.2.1
    omega
  obtain ⟨x0, hx0⟩ : ∃ x, xs[0]? = some x := ⟨_, List.getElem?_eq_getElem (by omega)⟩
  obtain ⟨lb, lo, lc, rfl, -, -⟩ := (h2.sl elB.len).at_ hx0
  obtain ⟨rfl, -⟩ := h2.whole
  rw [h3] at hh h2 h5
  have hlg := (h5 lb rfl).1
  have hlF := (h5 lb rfl).2
  have hps63 : (ps.length : Int) ≤ 24 := by omega
  have hN63 : (N : Int) ≤ 4096 := by omega
  have HH := Lib.hid hh
  have H2 := Lib.hid h2
  have H3 := Lib.hid h3
  have H4 := Lib.hid h4
  have H5 := Lib.hid h5
  have HL := Lib.hid h
  have HYS := Lib.hid hys
  have HYO := Lib.hid hyo
  have HYD := Lib.hid hyD
  have HYL := Lib.hid hyl
  have HV3 := Lib.hid v3
  have HT3 := Lib.hid t3
  have HLG := Lib.hid hlg
  have HLF := Lib.hid hlF
  clear h hh h2 h3 h4 h5 hys hyo hyD hyl v3 t3 ht hx0 hlg hlF
  go_enter Tryz.func43, Tryz.ntmps43
  go_wp2_with fail
  go_loopw [4] (fun iv wi => ∃ k : Nat, k ≤ ps.length ∧ iv = .int .i64 k ∧ (∃ zs : List (List Nat × Sv), zs.length = N ∧ LOut enB 1 53 0 wi (.slice (some ⟨lb, 0, none⟩) N lc) zs ∧ ∀ j x, zs[j]? = some x → x.1 = (takeH l.H (ps.take k) j).getD [] ∧ Dat wi S x.2 x.1) ∧ Mod (fun b => b = lb) w wi) (fun iv _ => ps.length - (intOf iv).toNat)
  case atStart => exact ⟨0, Nat.zero_le _, rfl, ⟨xs, H3.out, H2.out, H4.out⟩, Mod.refl _ _⟩
  case round =>
    obtain ⟨k, hk, rfl, ⟨zs, hz1, hz2, hz3⟩, hm⟩ := hrel
    have hhr := hm.heap HH.out fun e => HLG.out e.symm
    by_cases hkl : k < ps.length
    · have hkl' : (k : Int) < (ps.length : Int) := by omega
      have hdk : decide (k < ps.length) = true := by simp [hkl]
      obtain ⟨y, hy⟩ : ∃ y, ys[k]? = some y := ⟨_, List.getElem?_eq_getElem (by rw [HYL.out]; exact hkl)⟩
      have hpy : ps[k]? = some y.1 := by rw [← HYS.out, List.getElem?_map, hy]; rfl
      have hdy := HYD.out y (List.mem_of_getElem? hy)
      have hgy := HT3.out _ (List.mem_of_getElem? hpy)
      obtain ⟨gq, go, rfl, hgl, hcq⟩ := HV3.out (by omega)
      have hgr : ¬ gq = lb := fun e => HYO.out gq rfl (e ▸ HLF.out)
      have hlq := lies_mod (S := fun b => b = lb) (hcq k _ hy) hm hgr
      have hts := take_snoc hpy
      obtain ⟨⟨at_, dat⟩, ⟨ya, yn, yc⟩⟩ := y
      obtain ⟨e1, e2, e3⟩ := hgy
      simp only at e1 e2 e3 hdy
      obtain ⟨at_, rfl⟩ := Int.eq_ofNat_of_zero_le e1
      have hat : at_ < N := by omega
      have r0 : wr.drew.cell? ⟨gq, go + k * 2, none⟩ = some (.int .i64 (at_ : Nat)) := hlq 0 (by simp [enPt])
      have r1 : wr.drew.cell? ⟨gq, go + k * 2 + 1, none⟩ = some (.slice ya yn yc) := hlq 1 (by simp [enPt, sv])
      have c6 : wr.drew.cell? ⟨g, 6, none⟩ = some (.slice (some ⟨lb, 0, none⟩) N lc) := cell_of (o := 6) hhr rfl
      have hdr : LSl en8 1 wr (.slice ya yn yc) dat := hdy.1.mod hm fun r hr e => hdy.2 r hr (e ▸ HLF.out)
      have hcp := rcopy_any wr.drew _ _ (hdr.below (Below.refl _ wr).drew) (by omega)
      have hza : zs[at_]? = some (zs[at_]'(by omega)) := List.getElem?_eq_getElem (by omega)
      generalize (zs[at_]'(by omega)) = z at hza
      have hai : (at_ : Int) < (N : Int) := by omega
      have hglt : gq < wr.heap.size := Nat.lt_of_lt_of_le hgl hm.size
      have hgwl : g < wr.heap.size := lt_of_block hhr
      have hlbl : lb < wr.heap.size := hz2.lt rfl
      have hfr : ∀ W, Below wr.heap.size wr W → W.cell? ⟨g, 6, none⟩ = some (.slice (some ⟨lb, 0, none⟩) N lc) ∧ W.cell? ⟨gq, go + k * 2, none⟩ = some (.int .i64 (at_ : Nat)) ∧ W.cell? ⟨gq, go + k * 2 + 1, none⟩ = some (.slice ya yn yc) := fun W hW => ⟨(hW.cell (p := ⟨g, 6, none⟩) hgwl).trans c6, (hW.cell (p := ⟨gq, go + k * 2, none⟩) hglt).trans r0, (hW.cell (p := ⟨gq, go + k * 2 + 1, none⟩) hglt).trans r1⟩
      have hS := hfr _ (Below.refl _ wr).drew
      have HFR := Lib.hid hfr
      have HZ1 := Lib.hid hz1
      have HZ2 := Lib.hid hz2
      have HZ3 := Lib.hid hz3
      have HM := Lib.hid hm
      have HZA := Lib.hid hza
      have HTS := Lib.hid hts
      have HE3 := Lib.hid e3
      clear hfr hz1 hz2 hz3 hm hza hts hhr hy hpy hdy hcq hlq hdr r0 r1 c6 e1 e2 e3
      go_upto_region 3 with fail
      refine wp_region_x (fun w' => w'.cell? ⟨g, 6, none⟩ = some (.slice (some ⟨lb, 0, none⟩) N lc) ∧ w'.cell? ⟨gq, go + k * 2, none⟩ = some (.int .i64 (at_ : Nat)) ∧ w'.cell? ⟨gq, go + k * 2 + 1, none⟩ = some (.slice ya yn yc)) [(0, 1), (1, 1), (2, 1), (3, 0), (4, 1), (5, 1), (6, 1), (7, 1), (8, 0), (9, 1), (10, 1), (11, 1), (12, 1), (13, 0), (14, 2), (15, 1), (16, 3)] (by kernel_rfl) (by kernel_rfl) (by intro d v c a w h; cases d <;> exact h) ?_
      iterate 3 (refine x_take rfl (fun K hK => ?_); go_simp; refine hK _ ?_; clear hK K)
      refine x_read rfl hS (fun w' h => exec_load1 ⟨⟨_, Tryz.underlying50, rfl⟩⟩ rfl h.1) ?_
      iterate 4 (refine x_take rfl (fun K hK => ?_); go_simp; refine hK _ ?_; clear hK K)
      refine x_read rfl hS (fun w' h => exec_load1 ⟨⟨_, Tryz.underlying3, rfl⟩⟩ rfl h.2.1) ?_
      iterate 4 (refine x_take rfl (fun K hK => ?_); go_simp; refine hK _ ?_; clear hK K)
      refine x_read rfl hS (fun w' h => exec_load1 ⟨⟨_, Tryz.underlying53, rfl⟩⟩ rfl h.2.2) ?_
      refine x_show' rfl (fun K hK => ?_)
      go_simp
      refine hcp.mono ?_
      rintro e w3 ⟨v3, rfl, hO3, hb3⟩
      obtain ⟨a3, n3, c3, rfl⟩ := LOut.shape hO3
      have hb13 : Below wr.heap.size wr w3 := (Below.refl _ wr).drew.trans hb3
      refine hK _ _ (HFR.out _ hb13) ?_
      clear hK K hS
      iterate 1 (refine x_take rfl (fun K hK => ?_); go_simp; refine hK _ ?_; clear hK K)
      have hz23 := HZ2.out.below hb13
      have hset := LOut.set elB.len hz23 (i := at_) (j := 0) (y := (dat, (a3, n3, c3))) (u := .slice a3 n3 c3) HZA.out (by decide) rfl
      simp only [Nat.mul_one, Nat.add_zero, Nat.zero_add] at hset
      have hc6 : w3.cell? ⟨lb, at_, none⟩ = some (sv z.2) := by
        have := hz23.lies elB.len HZA.out 0 (by simp [enB])
        simpa [enB] using this
      have hf6 : w3.frozen? ⟨lb, at_, none⟩ = false := hz23.frozen at_
      refine x_skip rfl (exec_store1 (v := .slice a3 n3 c3) ⟨⟨_, Tryz.underlying53, rfl⟩⟩ (by kernel_rfl) rfl rfl rfl hc6 hf6) ?_
      refine x_nil ?_
      have hm4 : Mod (fun b => b = lb) w3 (w3.setCell ⟨lb, at_, none⟩ (.slice a3 n3 c3)) := (Mod.refl _ _).setCell _ _ fun _ => rfl
      have hmr : Mod (fun b => b = lb) wr (w3.setCell ⟨lb, at_, none⟩ (.slice a3 n3 c3)) := (mod0 hb13).trans hm4 (fun _ h => h.elim) fun _ _ h => h
      have HSET := Lib.hid hset
      have HM4 := Lib.hid hm4
      have HMR := Lib.hid hmr
      have HO3 := Lib.hid hO3
      have HB13 := Lib.hid hb13
      clear hset hm4 hmr hO3 hb13 hb3 hz23 hc6 hf6 hcp
      go_wp2
      go_roundw
      case rel =>
        have hSl : ∀ b, S b → b < wr.heap.size := fun b hb => Nat.lt_of_lt_of_le (HL.out.lt b hb) HM.out.size
        refine ⟨k + 1, by omega, by go_num, ⟨_, by rw [List.length_set]; exact HZ1.out, HSET.out, fun j x hx => ?_⟩, HM.out.trans HMR.out (fun _ h => h) fun _ _ h => h⟩
        rw [HTS.out, takeH_snoc]
        simp only
        rw [List.getElem?_set] at hx
        by_cases hj : at_ = j
        · subst hj
          rw [if_pos rfl] at hx
          rw [if_pos rfl]
          split at hx
          · obtain rfl := Option.some.inj hx
            have h1 : ∀ r, (Value.slice a3 n3 c3).ownBlock = some r → wr.heap.size ≤ r ∧ r < w3.heap.size := fun r hr => ⟨HO3.out.lo r hr, HO3.out.lt hr⟩
            refine ⟨rfl, (HO3.out.sl el8.len).mod HM4.out fun r hr e => ?_, fun r hr => ⟨fun e => ?_, Nat.lt_of_lt_of_le (h1 r hr).2 HM4.out.size⟩⟩
            · have := (h1 r hr).1
              omega
            · have := (h1 r hr).1
              have := hSl r e
              omega
          · cases hx
        · rw [if_neg hj] at hx
          rw [if_neg (by omega)]
          exact ⟨(HZ3.out j x hx).1, (HZ3.out j x hx).2.turn HMR.out (fun b hb => hb ▸ HL.out.fs lb HLF.out) fun _ h => .inl h⟩
      case measure => simp [intOf]; omega
    · obtain rfl : k = ps.length := by omega
      have hdk : decide (ps.length < ps.length) = false := by simp
      rw [List.take_length] at hz3
      have hfin : RLg wr S F g p { l with H := takeH l.H ps } N :=
        ⟨⟨_, zs, hhr, hz2, hz1, hz3, HH.out |> fun _ => H5.out⟩, HL.out.fg, HL.out.fs, fun b hb => Nat.lt_of_lt_of_le (HL.out.lt b hb) hm.size⟩
      have HFIN := Lib.hid hfin
      have HM := Lib.hid hm
      clear hfin hm hz1 hz2 hz3 hhr
      go_wp2
      (try simp only [Exit.inBlock, Exit.then]); refine bodyPost_end (results_none rfl _ _ _) rfl ?_
      exact ⟨rfl, HFIN.out, HM.out.mono fun x _ hx => hx ▸ HLF.out⟩
end Go.Proofs.YtmakpbjknklpiaaGreat
