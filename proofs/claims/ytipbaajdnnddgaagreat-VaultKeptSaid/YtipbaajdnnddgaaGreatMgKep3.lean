/- VaultKept: the document's records compared; where the law stands. -/
import Derived.Test.YtipbaajdnnddgaaGreatMgKep2
import Derived.Test.YtipbaajdnnddgaaGreatMgVlj33
/- A call of VaultKept's: walked. -/
namespace Go.Proofs.YtipbaajdnnddgaaGreat
open Go.RowKit Go.Tn Go.Tn.Bt Go.Tn.Lp Go.Tn.Dk Go.Tn.Ino
/-- A result, one in cells, one more. -/
theorem results_cellM {fn : Func} {t u v : Tmp} {T : TypeId} (h : fn.results = #[.tmp u, .cell t T, .tmp v]) (tmps : Array Value) {P : Program} {w : World} {b o : Nat} {cs : Array Value} (ht : tmps.getD t undef = .pointer (some ⟨b, o, none⟩)) (hT : AggT P T cs.size) (hL : Lies w b o cs) :
    (results fn tmps).run P w = .ok (.tuple #[tmps.getD u undef, .agg cs, tmps.getD v undef]) w := by
  have hl := run_loadA hT hL
  simp only [Instr.loadAt, Instr.sureAddr, Sem.run_bind, Sem.run_pure, Result.andThen_ok] at hl
  have ht' : tmps[t]?.getD undef = .pointer (some ⟨b, o, none⟩) := by rw [← ht]; simp
  simp [results, h, ht', asAddr, hl]
def sesW (x : Rec) (c : Int) (k : Nat) : Nat := if sesOk x c k then 0 else 2
def holW (x : Rec) (c : Int) : Nat := if holOk x c then 0 else 2
section
variable {w : World} {x : Rec}
theorem rses_any (hl : x.cl.length = 8) (c : Int) (k : Nat) (hk : k < 18446744073709551616) (hc63 : -9223372036854775808 ≤ c ∧ c < 9223372036854775808) : Calls Tryz.prog 27 #[.agg (docC x), .int .i64 c, .int .u64 k] w
    fun e w' => e = .returned (.tuple #[.agg (docC (sesR x c k)), .int .i64 (sesW x c k : Nat)]) ∧ Below w.heap.size w w' := by
  by_cases h : sesOk x c k
  · have h0 := h
    obtain ⟨h1, h2, h3, h4⟩ := h
    obtain ⟨c, rfl⟩ := Int.eq_ofNat_of_zero_le h1
    rw [Int.toNat_natCast] at h3
    have := rses_ok (w := w) hl c (by omega) k h3 h4
    unfold sesR sesW
    rw [if_pos h0, if_pos h0, Int.toNat_natCast]
    exact this
  · have := rses_no (w := w) (r := x) c k hk hc63 h
    unfold sesR sesW
    rw [if_neg h, if_neg h]
    exact this
theorem rhol_any (hl : x.cl.length = 8) (c : Int) (b : Bool) (hc63 : -9223372036854775808 ≤ c ∧ c < 9223372036854775808) : Calls Tryz.prog 28 #[.agg (docC x), .int .i64 c, .bool b] w
    fun e w' => e = .returned (.tuple #[.agg (docC (holR x c b)), .int .i64 (holW x c : Nat)]) ∧ Below w.heap.size w w' := by
  by_cases h : holOk x c
  · have h0 := h
    obtain ⟨h1, h2, h3⟩ := h
    obtain ⟨c, rfl⟩ := Int.eq_ofNat_of_zero_le h1
    rw [Int.toNat_natCast] at h3
    have := rhol_ok (w := w) hl c (by omega) b h3
    unfold holR holW
    rw [if_pos h0, if_pos h0, Int.toNat_natCast]
    exact this
  · have := rhol_no (w := w) (r := x) c b hc63 h
    unfold holR holW
    rw [if_neg h, if_neg h]
    exact this
end
/-- What a call makes of the document's record; its answer. -/
def doneR (x : Rec) (o : DoV) : Rec := if o.kind = 0 then sesR x o.who o.ses else holR x o.who o.is
def doneW (x : Rec) (o : DoV) : Nat := if o.kind = 0 then sesW x o.who o.ses else holW x o.who
/-- What 'does' leaves. -/
def VDoes (w : World) (F FD : Nat → Prop) (v s g p : Nat) (i : Nat) (d : Dsk) (x m y : Rec) (want : Nat) (e : Ending) (w' : World) : Prop := ∃ l' d' cd r' F' FD', VDid i d x m y want l' d' r' cd ∧ e = .returned (.tuple #[.int .i64 (cd : Nat), .agg (docC y), .int .i64 (want : Nat)]) ∧ VAt w' F' FD' v s g p l' d' r' ∧ Mod (fun b => (F b ∨ FD b) ∨ b = v) w w' ∧ (∀ b, F' b → F b ∨ w.heap.size ≤ b) ∧ ∀ b, FD' b → FD b ∨ w.heap.size ≤ b
section
variable {w : World} {F FD : Nat → Prop} {v s g p : Nat} {i : Nat} {l : Lg} {d : Dsk} {r x m : Rec}
theorem doneR_len (hl : x.cl.length = 8) (o : DoV) : (doneR x o).cl.length = 8 := by
  unfold doneR sesR holR
  split
  · split
    · show (x.cl.set _ _).length = 8
      rw [List.length_set, hl]
    · exact hl
  · split
    · show (x.cl.set _ _).length = 8
      rw [List.length_set, hl]
    · exact hl
set_option maxRecDepth 20000 in
set_option maxHeartbeats 4000000 in
theorem does_ses (hV : VAt w F FD v s g p l d r) (hM : VMode i l d r x m) (hi : i ≤ 900) (hQ : d.Q.length ≤ 800000000) (hl : x.cl.length = 8) (o : DoV) (ke : Option Addr × Nat × Nat) (hk : o.kind = 0) (hwh : -9223372036854775808 ≤ o.who ∧ o.who < 9223372036854775808) (hse : o.ses < 18446744073709551616) :
    Calls Tryz.prog 16 #[.pointer (some ⟨v, 0, none⟩), .agg (docC x), .agg (enDoV (o, ke)).toArray] w fun e w' => VDoes w F FD v s g p i d x m (doneR x o) (doneW x o) e w' := by
  have e1 : doneR x o = sesR x o.who o.ses := by unfold doneR; rw [if_pos hk]
  have e2 : doneW x o = sesW x o.who o.ses := by unfold doneW; rw [if_pos hk]
  have hyl := doneR_len hl o
  obtain ⟨kd, wh, nm, se, is, kp⟩ := o
  obtain ⟨a5, n5, c5⟩ := ke
  simp only at hk hwh hse e1 e2
  show Calls Tryz.prog 16 #[.pointer (some ⟨v, 0, none⟩), .agg (docC x), .agg #[.int .i64 kd, .int .i64 wh, .int .i64 nm, .int .u64 (se : Nat), .bool is, .slice a5 n5 c5]] w _
  rw [e1] at hyl ⊢
  rw [e2]
  clear e1 e2
  have hbx : (w.alloc (.cells (docC x) 53)).heap[w.heap.size]? = some (.cells (docC x) 53 (0, 0)) := heap_alloc_at
  have hb1 : Below w.heap.size w (w.alloc (.cells (docC x) 53)) := (Below.refl _ _).alloc (Nat.le_refl _) _
  have hz1 : (w.alloc (.cells (docC x) 53)).heap.size = w.heap.size + 1 := by simp
  generalize hw1 : w.alloc (.cells (docC x) 53) = w1 at hbx hb1 hz1
  have hbo : (w1.alloc (.cells #[.int .i64 kd, .int .i64 wh, .int .i64 nm, .int .u64 (se : Nat), .bool is, .slice a5 n5 c5] 39)).heap[w1.heap.size]? = some (.cells #[.int .i64 kd, .int .i64 wh, .int .i64 nm, .int .u64 (se : Nat), .bool is, .slice a5 n5 c5] 39 (0, 0)) := heap_alloc_at
  have hb2 : Below w1.heap.size w1 (w1.alloc (.cells #[.int .i64 kd, .int .i64 wh, .int .i64 nm, .int .u64 (se : Nat), .bool is, .slice a5 n5 c5] 39)) := (Below.refl _ _).alloc (Nat.le_refl _) _
  have hz2 : (w1.alloc (.cells #[.int .i64 kd, .int .i64 wh, .int .i64 nm, .int .u64 (se : Nat), .bool is, .slice a5 n5 c5] 39)).heap.size = w1.heap.size + 1 := by simp
  generalize hw2 : w1.alloc (.cells #[.int .i64 kd, .int .i64 wh, .int .i64 nm, .int .u64 (se : Nat), .bool is, .slice a5 n5 c5] 39) = w2 at hbo hb2 hz2
  have hbz : (w2.alloc (.cells (docF 0 (fun _ => 0) (fun _ => false)) 53)).heap[w2.heap.size]? = some (.cells (docF 0 (fun _ => 0) (fun _ => false)) 53 (0, 0)) := heap_alloc_at
  have hb3 : Below w2.heap.size w2 (w2.alloc (.cells (docF 0 (fun _ => 0) (fun _ => false)) 53)) := (Below.refl _ _).alloc (Nat.le_refl _) _
  have hz3 : (w2.alloc (.cells (docF 0 (fun _ => 0) (fun _ => false)) 53)).heap.size = w2.heap.size + 1 := by simp
  generalize hw3 : w2.alloc (.cells (docF 0 (fun _ => 0) (fun _ => false)) 53) = w3 at hbz hb3 hz3
  rw [docF_z] at hw3
  have hbx3 := (hb3.block w.heap.size (by omega)).trans ((hb2.block w.heap.size (by omega)).trans hbx)
  have hbo3 := (hb3.block w1.heap.size (by omega)).trans hbo
  have HB : Hid (Below w.heap.size w w3) := Lib.hid (hb1.trans ((hb2.mono (by omega)).trans (hb3.mono (by omega))))
  have HZ1 := Lib.hid hz1
  have HZ2 := Lib.hid hz2
  have HZ3 := Lib.hid hz3
  have HBZ := Lib.hid hbz
  have c0 : w3.cell? ⟨w1.heap.size, 0, none⟩ = some (.int .i64 kd) := cell_of hbo3 rfl
  have c1 : w3.cell? ⟨w1.heap.size, 1, none⟩ = some (.int .i64 wh) := cell_of hbo3 rfl
  have c3 : w3.cell? ⟨w1.heap.size, 3, none⟩ = some (.int .u64 (se : Nat)) := cell_of hbo3 rfl
  have haX := aggD (b := x.boot) (s := x.ses) (h := x.hol)
  have hLX := lies_of hbx3
  have hrx := rses_any (w := w3) hl wh se hse hwh
  have HV := Lib.hid (hV.below HB.out)
  have HM := Lib.hid hM
  have HW := Lib.hid hwh
  have HQ := Lib.hid hQ
  have hvl := lt_of_block hV.blk
  have HSL := Lib.hid (lt_of_block hV.fs.blk)
  have hlow : ∀ b, (F b ∨ FD b) ∨ b = v → b < w.heap.size := fun b hb => by
    rcases hb with (hb | hb) | hb
    · exact hV.fs.log.lt b hb
    · exact hV.fs.disk.lt b hb
    · rw [hb]; exact hvl
  have HLW := Lib.hid hlow
  clear hV hM hwh hQ hbx hb1 hz1 hbo hb2 hz2 hbz hb3 hz3 hbx3 hbo3 hl hlow hvl
  subst hk
  go_enter Tryz.func16, Tryz.ntmps16
  go_upto_region 1 with fail
  clear hw1 hw2 hw3
  unfold docC at hLX hrx
  go_wp2_with (first
    | ((with_reducible refine wpList_loadA haX hLX ?_ ?_); rfl; go_frame)
    | fail)
  refine hrx.mono ?_
  rintro e w4 ⟨rfl, hb4⟩
  generalize hy : sesR x wh se = y at *
  have hYB := Lib.hid (show docC y = docF y.boot y.ses y.hol from rfl)
  have haY := aggD (b := y.boot) (s := y.ses) (h := y.hol)
  have honY := docF_one (b := y.boot) (s := y.ses) (h := y.hol)
  have hb5 : Below w3.heap.size w3 (w4.alloc (.cells (docF y.boot y.ses y.hol) 53)) := hb4.alloc hb4.size _
  have hk5 : (w4.alloc (.cells (docF y.boot y.ses y.hol) 53)).heap[w4.heap.size]? = some (.cells (docF y.boot y.ses y.hol) 53 (0, 0)) := heap_alloc_at
  have hz5 : (w4.alloc (.cells (docF y.boot y.ses y.hol) 53)).heap.size = w4.heap.size + 1 := by simp
  have HB5 := Lib.hid hb5
  have HK5 := Lib.hid hk5
  have HZ5 := Lib.hid hz5
  have HB4 := Lib.hid (show w3.heap.size ≤ w4.heap.size from hb4.size)
  have HHY := Lib.hid hy
  have p1 := (hb5.cell (p := ⟨w1.heap.size, 1, none⟩) (World.block_lt_of_cell? w3 _ c1)).trans c1
  have p3 := (hb5.cell (p := ⟨w1.heap.size, 3, none⟩) (World.block_lt_of_cell? w3 _ c3)).trans c3
  clear hb4 hb5 hk5 hz5 hrx hy c1 c3 c0
  unfold docC
  go_upto_region 3 with (first
    | ((with_reducible refine wpList_storeA_new haY ?_ honY ?_ ?_ ?_); rfl; rfl; rfl; go_frame)
    | fail)
  generalize hyb : w4.heap.size = yb at *
  generalize w4.alloc (.cells (docF y.boot y.ses y.hol) 53) = w5 at *
  have hV5 := ((HV.out.below HB5.out).below (Below.refl _ _).drew)
  obtain ⟨l', d', cd, r', hD, hC⟩ := ses_step hV5 HM.out hi HQ.out wh se hse HW.out
  rw [HHY.out] at hD
  have HD := Lib.hid hD
  have HYB := Lib.hid hyb
  have hLY : Lies w5.drew yb 0 (docF y.boot y.ses y.hol) := lies_of (w := w5.drew) HK5.out
  have hS : w5.drew.cell? ⟨w1.heap.size, 1, none⟩ = some (.int .i64 wh) ∧ w5.drew.cell? ⟨w1.heap.size, 3, none⟩ = some (.int .u64 (se : Nat)) ∧ Lies w5.drew yb 0 (docF y.boot y.ses y.hol) := ⟨p1, p3, hLY⟩
  clear hV5 hD hyb p1 p3 hLY
  refine wp_region_x (fun w' => w'.cell? ⟨w1.heap.size, 1, none⟩ = some (.int .i64 wh) ∧ w'.cell? ⟨w1.heap.size, 3, none⟩ = some (.int .u64 (se : Nat)) ∧ Lies w' yb 0 (docF y.boot y.ses y.hol)) [(0, 1), (1, 1), (2, 0), (3, 1), (4, 0), (6, 0), (7, 1), (5, 2), (8, 1), (9, 3), (10, 1)] (by kernel_rfl) (by kernel_rfl) (by intro d v c a w h; cases d <;> exact h) ?_
  iterate 2 (refine x_take rfl (fun K hK => ?_); go_simp; refine hK _ ?_; clear hK K)
  refine x_read rfl hS (fun w' h => exec_load1 ⟨⟨_, Tryz.underlying3, rfl⟩⟩ rfl h.1) ?_
  iterate 1 (refine x_take rfl (fun K hK => ?_); go_simp; refine hK _ ?_; clear hK K)
  refine x_read rfl hS (fun w' h => exec_load1 ⟨⟨_, Tryz.underlying30, rfl⟩⟩ rfl h.2.1) ?_
  refine x_read rfl hS (fun w' h => exec_loadA haY rfl h.2.2) ?_
  iterate 1 (refine x_take rfl (fun K hK => ?_); go_simp; refine hK _ ?_; clear hK K)
  refine x_show' rfl (fun K hK => ?_)
  go_simp
  refine hC.mono ?_
  rintro e w6 ⟨rfl, F6, FD6, hV6, hm6, h16, h26⟩
  have hnl : ∀ b, w.heap.size ≤ b → ¬ ((F b ∨ FD b) ∨ b = v) := fun b hb h => absurd (HLW.out b h) (Nat.not_lt.2 hb)
  have hw1 : w.heap.size ≤ w1.heap.size := by have := HZ1.out; omega
  have hyb2 : w.heap.size ≤ yb := by have := HB4.out; have := HZ1.out; have := HZ2.out; have := HZ3.out; have := HYB.out; omega
  have hz2b : w.heap.size ≤ w2.heap.size := by have := HZ1.out; have := HZ2.out; omega
  have hS6 : w6.cell? ⟨w1.heap.size, 1, none⟩ = some (.int .i64 wh) ∧ w6.cell? ⟨w1.heap.size, 3, none⟩ = some (.int .u64 (se : Nat)) ∧ Lies w6 yb 0 (docF y.boot y.ses y.hol) :=
    ⟨cell_mod hS.1 hm6 (hnl _ hw1), cell_mod hS.2.1 hm6 (hnl _ hw1), lies_of (hm6.heap (show w5.drew.heap[yb]? = _ from HK5.out) (hnl _ hyb2))⟩
  refine hK _ _ hS6 ?_
  clear hK K hC hS
  have hbz6 := hm6.heap (show w5.drew.heap[w2.heap.size]? = _ from (HB5.out.block w2.heap.size (by have := HZ3.out; omega)).trans HBZ.out) (hnl _ hz2b)
  iterate 1 (refine x_take rfl (fun K hK => ?_); go_simp; refine hK _ ?_; clear hK K)
  obtain ⟨w7, hr7, hh7, hm7⟩ := exec_storeB (ρ := fun _ => undef) (ty := 0) (pos := "") (after := #[]) (x := .tmp 0) (y := .tmp 0) haY hbz6 rfl honY
  refine x_skip rfl (hr7 _ _ _ _ _ _ _ _ rfl rfl) ?_
  iterate 1 (refine x_take rfl (fun K hK => ?_); go_simp; refine hK _ ?_; clear hK K)
  refine x_nil ?_
  have hV6 : VAt w6 F6 FD6 v s g p l' d' r' := hV6
  have hsz05 : w.heap.size ≤ w5.heap.size := Nat.le_trans HB.out.size HB5.out.size
  have hz56 : w5.heap.size ≤ w6.heap.size := hm6.size
  have hz35 : w2.heap.size < w5.heap.size := by have := HB5.out.size; have := HZ3.out; omega
  have hn2 : ∀ b, (F b ∨ w5.drew.heap.size ≤ b) → b ≠ w2.heap.size := fun b hb e => by
    subst e
    rcases hb with hb | hb
    · exact hnl _ hz2b (.inl (.inl hb))
    · have hb : w5.heap.size ≤ w2.heap.size := hb
      omega
  have hn3 : ∀ b, (FD b ∨ w5.drew.heap.size ≤ b) → b ≠ w2.heap.size := fun b hb e => by
    subst e
    rcases hb with hb | hb
    · exact hnl _ hz2b (.inl (.inr hb))
    · have hb : w5.heap.size ≤ w2.heap.size := hb
      omega
  have hV7 : VAt w7 F6 FD6 v s g p l' d' r' := ⟨hm7.heap hV6.blk (fun e => hnl _ hz2b (.inr e.symm)), hV6.fs.mod hm7 (fun b hb => hn2 b (h16 b hb)) (fun b hb => hn3 b (h26 b hb)) (fun e => by have := HSL.out; have e : s = w2.heap.size := e; omega), hV6.rl, hV6.ns, hV6.nF, hV6.nD⟩
  have hm07 : Mod (fun b => (F b ∨ FD b) ∨ b = v) w w7 := ((((Mod.of_below (HB.out.trans (HB5.out.mono HB.out.size))).mono (T := fun b => (F b ∨ FD b) ∨ b = v) fun x hx hS => absurd hx (Nat.not_lt.2 hS)).drew).trans hm6 (fun x h => h) (fun x _ h => h)).trans hm7 (fun x h => h) (fun x hx h => absurd hx (Nat.not_lt.2 (h ▸ hz2b)))
  have HP : Hid (VDoes w F FD v s g p i d x m y (sesW x wh se) (.returned (.tuple #[.int .i64 (cd : Nat), .agg (docC y), .int .i64 ((sesW x wh se) : Nat)])) w7) := Lib.hid ⟨l', d', cd, r', F6, FD6, HD.out, rfl, hV7, hm07, fun b hb => (h16 b hb).imp id fun h => Nat.le_trans hsz05 h, fun b hb => (h26 b hb).imp id fun h => Nat.le_trans hsz05 h⟩
  have hL7 := lies_of hh7
  clear hV6 hm6 h16 h26 hS6 hbz6 hm7 hr7 hV7 hm07 hn2 hn3 hnl
  go_wp2
  refine bodyPost_ret (results_cellM rfl _ rfl haY hL7) rfl ?_
  rw [HHY.out]
  exact HP.out
set_option maxRecDepth 20000 in
set_option maxHeartbeats 4000000 in
theorem does_hol (hV : VAt w F FD v s g p l d r) (hM : VMode i l d r x m) (hi : i ≤ 900) (hQ : d.Q.length ≤ 800000000) (hl : x.cl.length = 8) (o : DoV) (ke : Option Addr × Nat × Nat) (hk : o.kind ≠ 0) (hwh : -9223372036854775808 ≤ o.who ∧ o.who < 9223372036854775808) (hse : o.ses < 18446744073709551616) :
    Calls Tryz.prog 16 #[.pointer (some ⟨v, 0, none⟩), .agg (docC x), .agg (enDoV (o, ke)).toArray] w fun e w' => VDoes w F FD v s g p i d x m (doneR x o) (doneW x o) e w' := by
  have e1 : doneR x o = holR x o.who o.is := by unfold doneR; rw [if_neg hk]
  have e2 : doneW x o = holW x o.who := by unfold doneW; rw [if_neg hk]
  have hyl := doneR_len hl o
  obtain ⟨kd, wh, nm, se, is, kp⟩ := o
  obtain ⟨a5, n5, c5⟩ := ke
  simp only at hk hwh hse e1 e2
  show Calls Tryz.prog 16 #[.pointer (some ⟨v, 0, none⟩), .agg (docC x), .agg #[.int .i64 kd, .int .i64 wh, .int .i64 nm, .int .u64 (se : Nat), .bool is, .slice a5 n5 c5]] w _
  rw [e1] at hyl ⊢
  rw [e2]
  clear e1 e2
  have hbx : (w.alloc (.cells (docC x) 53)).heap[w.heap.size]? = some (.cells (docC x) 53 (0, 0)) := heap_alloc_at
  have hb1 : Below w.heap.size w (w.alloc (.cells (docC x) 53)) := (Below.refl _ _).alloc (Nat.le_refl _) _
  have hz1 : (w.alloc (.cells (docC x) 53)).heap.size = w.heap.size + 1 := by simp
  generalize hw1 : w.alloc (.cells (docC x) 53) = w1 at hbx hb1 hz1
  have hbo : (w1.alloc (.cells #[.int .i64 kd, .int .i64 wh, .int .i64 nm, .int .u64 (se : Nat), .bool is, .slice a5 n5 c5] 39)).heap[w1.heap.size]? = some (.cells #[.int .i64 kd, .int .i64 wh, .int .i64 nm, .int .u64 (se : Nat), .bool is, .slice a5 n5 c5] 39 (0, 0)) := heap_alloc_at
  have hb2 : Below w1.heap.size w1 (w1.alloc (.cells #[.int .i64 kd, .int .i64 wh, .int .i64 nm, .int .u64 (se : Nat), .bool is, .slice a5 n5 c5] 39)) := (Below.refl _ _).alloc (Nat.le_refl _) _
  have hz2 : (w1.alloc (.cells #[.int .i64 kd, .int .i64 wh, .int .i64 nm, .int .u64 (se : Nat), .bool is, .slice a5 n5 c5] 39)).heap.size = w1.heap.size + 1 := by simp
  generalize hw2 : w1.alloc (.cells #[.int .i64 kd, .int .i64 wh, .int .i64 nm, .int .u64 (se : Nat), .bool is, .slice a5 n5 c5] 39) = w2 at hbo hb2 hz2
  have hbz : (w2.alloc (.cells (docF 0 (fun _ => 0) (fun _ => false)) 53)).heap[w2.heap.size]? = some (.cells (docF 0 (fun _ => 0) (fun _ => false)) 53 (0, 0)) := heap_alloc_at
  have hb3 : Below w2.heap.size w2 (w2.alloc (.cells (docF 0 (fun _ => 0) (fun _ => false)) 53)) := (Below.refl _ _).alloc (Nat.le_refl _) _
  have hz3 : (w2.alloc (.cells (docF 0 (fun _ => 0) (fun _ => false)) 53)).heap.size = w2.heap.size + 1 := by simp
  generalize hw3 : w2.alloc (.cells (docF 0 (fun _ => 0) (fun _ => false)) 53) = w3 at hbz hb3 hz3
  rw [docF_z] at hw3
  have hbx3 := (hb3.block w.heap.size (by omega)).trans ((hb2.block w.heap.size (by omega)).trans hbx)
  have hbo3 := (hb3.block w1.heap.size (by omega)).trans hbo
  have HB : Hid (Below w.heap.size w w3) := Lib.hid (hb1.trans ((hb2.mono (by omega)).trans (hb3.mono (by omega))))
  have HZ1 := Lib.hid hz1
  have HZ2 := Lib.hid hz2
  have HZ3 := Lib.hid hz3
  have HBZ := Lib.hid hbz
  have c0 : w3.cell? ⟨w1.heap.size, 0, none⟩ = some (.int .i64 kd) := cell_of hbo3 rfl
  have c1 : w3.cell? ⟨w1.heap.size, 1, none⟩ = some (.int .i64 wh) := cell_of hbo3 rfl
  have c3 : w3.cell? ⟨w1.heap.size, 4, none⟩ = some (.bool is) := cell_of hbo3 rfl
  have haX := aggD (b := x.boot) (s := x.ses) (h := x.hol)
  have hLX := lies_of hbx3
  have hrx := rhol_any (w := w3) hl wh is hwh
  have HV := Lib.hid (hV.below HB.out)
  have HM := Lib.hid hM
  have HW := Lib.hid hwh
  have HQ := Lib.hid hQ
  have hvl := lt_of_block hV.blk
  have HSL := Lib.hid (lt_of_block hV.fs.blk)
  have hlow : ∀ b, (F b ∨ FD b) ∨ b = v → b < w.heap.size := fun b hb => by
    rcases hb with (hb | hb) | hb
    · exact hV.fs.log.lt b hb
    · exact hV.fs.disk.lt b hb
    · rw [hb]; exact hvl
  have HLW := Lib.hid hlow
  clear hV hM hwh hQ hbx hb1 hz1 hbo hb2 hz2 hbz hb3 hz3 hbx3 hbo3 hl hlow hvl
  have k0 : (kd == 0) = false := by simp [hk]
  go_enter Tryz.func16, Tryz.ntmps16
  go_upto_region 1 with fail
  clear hw1 hw2 hw3
  unfold docC at hLX hrx
  go_wp2_with (first
    | ((with_reducible refine wpList_loadA haX hLX ?_ ?_); rfl; go_frame)
    | fail)
  refine hrx.mono ?_
  rintro e w4 ⟨rfl, hb4⟩
  generalize hy : holR x wh is = y at *
  have hYB := Lib.hid (show docC y = docF y.boot y.ses y.hol from rfl)
  have haY := aggD (b := y.boot) (s := y.ses) (h := y.hol)
  have honY := docF_one (b := y.boot) (s := y.ses) (h := y.hol)
  have hb5 : Below w3.heap.size w3 (w4.alloc (.cells (docF y.boot y.ses y.hol) 53)) := hb4.alloc hb4.size _
  have hk5 : (w4.alloc (.cells (docF y.boot y.ses y.hol) 53)).heap[w4.heap.size]? = some (.cells (docF y.boot y.ses y.hol) 53 (0, 0)) := heap_alloc_at
  have hz5 : (w4.alloc (.cells (docF y.boot y.ses y.hol) 53)).heap.size = w4.heap.size + 1 := by simp
  have HB5 := Lib.hid hb5
  have HK5 := Lib.hid hk5
  have HZ5 := Lib.hid hz5
  have HB4 := Lib.hid (show w3.heap.size ≤ w4.heap.size from hb4.size)
  have HHY := Lib.hid hy
  have p1 := (hb5.cell (p := ⟨w1.heap.size, 1, none⟩) (World.block_lt_of_cell? w3 _ c1)).trans c1
  have p3 := (hb5.cell (p := ⟨w1.heap.size, 4, none⟩) (World.block_lt_of_cell? w3 _ c3)).trans c3
  clear hb4 hb5 hk5 hz5 hrx hy c1 c3 c0
  unfold docC
  go_upto_region 5 with (first
    | ((with_reducible refine wpList_storeA_new haY ?_ honY ?_ ?_ ?_); rfl; rfl; rfl; go_frame)
    | fail)
  generalize hyb : w4.heap.size = yb at *
  generalize w4.alloc (.cells (docF y.boot y.ses y.hol) 53) = w5 at *
  have hV5 := ((HV.out.below HB5.out).below (Below.refl _ _).drew)
  obtain ⟨l', d', cd, r', hD, hC⟩ := hol_step hV5 HM.out hi HQ.out wh is HW.out
  rw [HHY.out] at hD
  have HD := Lib.hid hD
  have HYB := Lib.hid hyb
  have hLY : Lies w5.drew yb 0 (docF y.boot y.ses y.hol) := lies_of (w := w5.drew) HK5.out
  have hS : w5.drew.cell? ⟨w1.heap.size, 1, none⟩ = some (.int .i64 wh) ∧ w5.drew.cell? ⟨w1.heap.size, 4, none⟩ = some (.bool is) ∧ Lies w5.drew yb 0 (docF y.boot y.ses y.hol) := ⟨p1, p3, hLY⟩
  clear hV5 hD hyb p1 p3 hLY
  refine wp_region_x (fun w' => w'.cell? ⟨w1.heap.size, 1, none⟩ = some (.int .i64 wh) ∧ w'.cell? ⟨w1.heap.size, 4, none⟩ = some (.bool is) ∧ Lies w' yb 0 (docF y.boot y.ses y.hol)) [(0, 1), (1, 1), (2, 0), (3, 1), (4, 0), (6, 0), (7, 1), (5, 2), (8, 1), (9, 3), (10, 1)] (by kernel_rfl) (by kernel_rfl) (by intro d v c a w h; cases d <;> exact h) ?_
  iterate 2 (refine x_take rfl (fun K hK => ?_); go_simp; refine hK _ ?_; clear hK K)
  refine x_read rfl hS (fun w' h => exec_load1 ⟨⟨_, Tryz.underlying3, rfl⟩⟩ rfl h.1) ?_
  iterate 1 (refine x_take rfl (fun K hK => ?_); go_simp; refine hK _ ?_; clear hK K)
  refine x_read rfl hS (fun w' h => exec_load1 ⟨⟨_, Tryz.underlying4, rfl⟩⟩ rfl h.2.1) ?_
  refine x_read rfl hS (fun w' h => exec_loadA haY rfl h.2.2) ?_
  iterate 1 (refine x_take rfl (fun K hK => ?_); go_simp; refine hK _ ?_; clear hK K)
  refine x_show' rfl (fun K hK => ?_)
  go_simp
  refine hC.mono ?_
  rintro e w6 ⟨rfl, F6, FD6, hV6, hm6, h16, h26⟩
  have hnl : ∀ b, w.heap.size ≤ b → ¬ ((F b ∨ FD b) ∨ b = v) := fun b hb h => absurd (HLW.out b h) (Nat.not_lt.2 hb)
  have hw1 : w.heap.size ≤ w1.heap.size := by have := HZ1.out; omega
  have hyb2 : w.heap.size ≤ yb := by have := HB4.out; have := HZ1.out; have := HZ2.out; have := HZ3.out; have := HYB.out; omega
  have hz2b : w.heap.size ≤ w2.heap.size := by have := HZ1.out; have := HZ2.out; omega
  have hS6 : w6.cell? ⟨w1.heap.size, 1, none⟩ = some (.int .i64 wh) ∧ w6.cell? ⟨w1.heap.size, 4, none⟩ = some (.bool is) ∧ Lies w6 yb 0 (docF y.boot y.ses y.hol) :=
    ⟨cell_mod hS.1 hm6 (hnl _ hw1), cell_mod hS.2.1 hm6 (hnl _ hw1), lies_of (hm6.heap (show w5.drew.heap[yb]? = _ from HK5.out) (hnl _ hyb2))⟩
  refine hK _ _ hS6 ?_
  clear hK K hC hS
  have hbz6 := hm6.heap (show w5.drew.heap[w2.heap.size]? = _ from (HB5.out.block w2.heap.size (by have := HZ3.out; omega)).trans HBZ.out) (hnl _ hz2b)
  iterate 1 (refine x_take rfl (fun K hK => ?_); go_simp; refine hK _ ?_; clear hK K)
  obtain ⟨w7, hr7, hh7, hm7⟩ := exec_storeB (ρ := fun _ => undef) (ty := 0) (pos := "") (after := #[]) (x := .tmp 0) (y := .tmp 0) haY hbz6 rfl honY
  refine x_skip rfl (hr7 _ _ _ _ _ _ _ _ rfl rfl) ?_
  iterate 1 (refine x_take rfl (fun K hK => ?_); go_simp; refine hK _ ?_; clear hK K)
  refine x_nil ?_
  have hV6 : VAt w6 F6 FD6 v s g p l' d' r' := hV6
  have hsz05 : w.heap.size ≤ w5.heap.size := Nat.le_trans HB.out.size HB5.out.size
  have hz56 : w5.heap.size ≤ w6.heap.size := hm6.size
  have hz35 : w2.heap.size < w5.heap.size := by have := HB5.out.size; have := HZ3.out; omega
  have hn2 : ∀ b, (F b ∨ w5.drew.heap.size ≤ b) → b ≠ w2.heap.size := fun b hb e => by
    subst e
    rcases hb with hb | hb
    · exact hnl _ hz2b (.inl (.inl hb))
    · have hb : w5.heap.size ≤ w2.heap.size := hb
      omega
  have hn3 : ∀ b, (FD b ∨ w5.drew.heap.size ≤ b) → b ≠ w2.heap.size := fun b hb e => by
    subst e
    rcases hb with hb | hb
    · exact hnl _ hz2b (.inl (.inr hb))
    · have hb : w5.heap.size ≤ w2.heap.size := hb
      omega
  have hV7 : VAt w7 F6 FD6 v s g p l' d' r' := ⟨hm7.heap hV6.blk (fun e => hnl _ hz2b (.inr e.symm)), hV6.fs.mod hm7 (fun b hb => hn2 b (h16 b hb)) (fun b hb => hn3 b (h26 b hb)) (fun e => by have := HSL.out; have e : s = w2.heap.size := e; omega), hV6.rl, hV6.ns, hV6.nF, hV6.nD⟩
  have hm07 : Mod (fun b => (F b ∨ FD b) ∨ b = v) w w7 := ((((Mod.of_below (HB.out.trans (HB5.out.mono HB.out.size))).mono (T := fun b => (F b ∨ FD b) ∨ b = v) fun x hx hS => absurd hx (Nat.not_lt.2 hS)).drew).trans hm6 (fun x h => h) (fun x _ h => h)).trans hm7 (fun x h => h) (fun x hx h => absurd hx (Nat.not_lt.2 (h ▸ hz2b)))
  have HP : Hid (VDoes w F FD v s g p i d x m y (holW x wh) (.returned (.tuple #[.int .i64 (cd : Nat), .agg (docC y), .int .i64 ((holW x wh) : Nat)])) w7) := Lib.hid ⟨l', d', cd, r', F6, FD6, HD.out, rfl, hV7, hm07, fun b hb => (h16 b hb).imp id fun h => Nat.le_trans hsz05 h, fun b hb => (h26 b hb).imp id fun h => Nat.le_trans hsz05 h⟩
  have hL7 := lies_of hh7
  clear hV6 hm6 h16 h26 hS6 hbz6 hm7 hr7 hV7 hm07 hn2 hn3 hnl
  go_wp2
  refine bodyPost_ret (results_cellM rfl _ rfl haY hL7) rfl ?_
  rw [HHY.out]
  exact HP.out
end
end Go.Proofs.YtipbaajdnnddgaaGreat

/- VaultKept: the document's records compared; where the law stands. -/
namespace Go.Proofs.YtipbaajdnnddgaaGreat
open Go.RowKit Go.Tn Go.Tn.Bt Go.Tn.Lp Go.Tn.Dk Go.Tn.Ino
def eqDocB (b b' : Nat) (s s' : Nat → Nat) (h h' : Nat → Bool) : Bool := decide (b = b') && ((List.range 8).all (fun j => decide (s j = s' j)) && (List.range 8).all fun j => h j == h' j)
theorem eqDocB_refl (b : Nat) (s : Nat → Nat) (h : Nat → Bool) : eqDocB b b s s h h = true := by
  unfold eqDocB
  simp
theorem eqDocB_eq {b b' : Nat} {s s' : Nat → Nat} {h h' : Nat → Bool} (e : eqDocB b b' s s' h h' = true) : docF b s h = docF b' s' h' := by
  unfold eqDocB at e
  simp only [Bool.and_eq_true, decide_eq_true_eq, List.all_eq_true, List.mem_range, beq_iff_eq] at e
  obtain ⟨rfl, e2, e3⟩ := e
  exact docF_congr (fun j hj => e2 j hj) (fun j hj => e3 j hj)
theorem docS_part {w : World} {b : Nat} {s : Nat → Nat} {h : Nat → Bool} {j : Nat} (hj : j < 8) : (part 30 ((docF b s h).extract 1 9) (j * 1)).run Tryz.prog w = .ok (.int .u64 (s j : Nat)) w :=
  part_int Tryz.underlying30 (by rw [Nat.mul_one, Array.getElem?_extract, if_pos (by rw [docF_size]; omega)]; exact docF_s hj)
theorem docH_part {w : World} {b : Nat} {s : Nat → Nat} {h : Nat → Bool} {j : Nat} (hj : j < 8) : (part 4 ((docF b s h).extract 9 17) (j * 1)).run Tryz.prog w = .ok (.bool (h j)) w := by
  have e : ((docF b s h).extract 9 17)[j]? = some (.bool (h j)) := by rw [Array.getElem?_extract, if_pos (by rw [docF_size]; omega)]; exact docF_h hj
  simp [part, isAgg, run_underlying Tryz.underlying4, e]
set_option maxRecDepth 20000 in
theorem eqDoc (w : World) (b b' : Nat) (s s' : Nat → Nat) (h h' : Nat → Bool) : (Op.equalIn 10000 53 (.agg (docF b s h)) (.agg (docF b' s' h'))).run Tryz.prog w = .ok (eqDocB b b' s s' h h') w := by
  rw [run_equalIn_agg w 9999 53 _ _ (by simp [Program.fieldsOf, Tryz.underlying53]) (by kernel_rfl)]
  obtain ⟨i0, hi0⟩ := info_of_underlying (P := Tryz.prog) Tryz.underlying30
  obtain ⟨i2, hi2⟩ := info_of_underlying (P := Tryz.prog) Tryz.underlying4
  obtain ⟨i1, hi1⟩ := info_of_underlying (P := Tryz.prog) Tryz.underlying50
  obtain ⟨i3, hi3⟩ := info_of_underlying (P := Tryz.prog) Tryz.underlying51
  have hc : Tryz.prog.cellsOf 30 = 1 := by kernel_rfl
  have hc2 : Tryz.prog.cellsOf 4 = 1 := by kernel_rfl
  have hpl : Tryz.prog.cellsOf 50 = 8 := by kernel_rfl
  have hpl2 : Tryz.prog.cellsOf 51 = 8 := by kernel_rfl
  have hsz := fun w => run_sizeOf (P := Tryz.prog) w hi1
  have hsz2 := fun w => run_sizeOf (P := Tryz.prog) w hi3
  have hsz3 := fun w => run_sizeOf (P := Tryz.prog) w hi0
  have g0 : ∀ (b : Nat) (s : Nat → Nat) (h : Nat → Bool), (docF b s h)[0]? = some (.int .u64 (b : Nat)) := fun _ _ _ => rfl
  have hA : ∀ d, (Op.eqItems (d + 1) 30 1 ((docF b s h).extract 1 9) ((docF b' s' h').extract 1 9) (List.range 8)).run Tryz.prog w = .ok ((List.range 8).all fun j => decide (s j = s' j)) w := fun d => eqItems_all _ fun i hi => by
    have hi8 : i < 8 := List.mem_range.1 hi
    exact ⟨_, _, docS_part hi8, docS_part hi8, (run_equalIn_int w d _ _ _ _ _ Tryz.underlying30).trans (by congr 1; rw [Bool.eq_iff_iff]; simp; omega)⟩
  have hB : ∀ d, (Op.eqItems (d + 1) 4 1 ((docF b s h).extract 9 17) ((docF b' s' h').extract 9 17) (List.range 8)).run Tryz.prog w = .ok ((List.range 8).all fun j => h j == h' j) w := fun d => eqItems_all _ fun i hi => by
    have hi8 : i < 8 := List.mem_range.1 hi
    exact ⟨_, _, docH_part hi8, docH_part hi8, run_equalIn_bool' w d _ _ _ Tryz.underlying4⟩
  generalize hq1 : ((List.range 8).all fun j => decide (s j = s' j)) = q1 at *
  generalize hq2 : ((List.range 8).all fun j => h j == h' j) = q2 at *
  simp [Program.fieldsOf, Tryz.underlying53, Op.eqFields, part, isAgg, run_underlying Tryz.underlying30, run_underlying Tryz.underlying4, run_underlying Tryz.underlying50, run_underlying Tryz.underlying51, run_equalIn_int w 9998 _ _ _ _ _ Tryz.underlying30, hsz, hsz2, hsz3, hpl, hpl2, hc, hc2, run_equalIn_array w 9998 _ _ Tryz.underlying50 hi0, run_equalIn_array w 9998 _ _ Tryz.underlying51 hi2, g0]
  have hA' := hA 9997
  have hB' := hB 9997
  have hB2 := run_equalIn_array w 9998 ((docF b s h).extract 9 17) ((docF b' s' h').extract 9 17) Tryz.underlying51 hi2
  rw [hc2, hB'] at hB2
  rw [hA']
  simp only [Result.andThen_ok, hB2]
  unfold eqDocB
  rw [hq1, hq2]
  by_cases hbb : b = b'
  · have hbb' : (b : Int) = (b' : Int) := by omega
    rw [if_pos hbb', decide_eq_true hbb]
    cases q1 <;> cases q2 <;> simp
  · have hbb' : ¬ (b : Int) = (b' : Int) := by omega
    rw [if_neg hbb', decide_eq_false hbb]
    simp
end Go.Proofs.YtipbaajdnnddgaaGreat
