/- VaultKept: plain: what a call leaves, with the power on, off; what a crash leaves. -/
import Derived.Test.YtipbaajdnnddgaaGreatMgKep1
/- The program's record as the document's: plain, walked. -/
namespace Go.Proofs.YtipbaajdnnddgaaGreat
open Go.RowKit Go.Tn Go.Tn.Bt Go.Tn.Lp Go.Tn.Dk Go.Tn.Ino
theorem built_doc (b : Nat) : Tryz.prog.built 53 [(0, .int .u64 (b : Nat))] = some (docF b (fun _ => 0) (fun _ => false)) := by kernel_rfl
/-- The first clients alone. -/
def cutS (r : Rec) (i : Nat) : Nat → Nat := fun j => if j < i then r.ses j else 0
def cutH (r : Rec) (i : Nat) : Nat → Bool := fun j => if j < i then r.hol j else false
theorem cut_next (r : Rec) {i : Nat} (hi : i < 8) : ((docF r.boot (cutS r i) (cutH r i)).setIfInBounds (1 + i) (.int .u64 (r.ses i : Nat))).setIfInBounds (9 + i) (.bool (r.hol i)) = docF r.boot (cutS r (i + 1)) (cutH r (i + 1)) := by
  rw [docF_setS hi, docF_setH hi]
  refine docF_congr (fun j _ => ?_) (fun j _ => ?_)
  · unfold cutS
    by_cases hj : j = i
    · rw [if_pos hj, if_pos (by omega), hj]
    · rw [if_neg hj]
      by_cases h : j < i
      · rw [if_pos h, if_pos (by omega)]
      · rw [if_neg h, if_neg (by omega)]
  · unfold cutH
    by_cases hj : j = i
    · rw [if_pos hj, if_pos (by omega), hj]
    · rw [if_neg hj]
      by_cases h : j < i
      · rw [if_pos h, if_pos (by omega)]
      · rw [if_neg h, if_neg (by omega)]
theorem cut_all (r : Rec) : docF r.boot (cutS r 8) (cutH r 8) = docC r := docF_congr (fun j hj => by unfold cutS; rw [if_pos hj]) (fun j hj => by unfold cutH; rw [if_pos hj])
set_option maxRecDepth 20000 in
set_option maxHeartbeats 4000000 in
theorem plain_any (w : World) (r : Rec) (hl : r.cl.length = 8) : Calls Tryz.prog 14 #[.agg (recC r)] w fun e w' => e = .returned (.agg (docC r)) ∧ Below w.heap.size w w' := by
  have hbx : (w.alloc (.cells (recC r) 35)).heap[w.heap.size]? = some (.cells (recC r) 35 (0, 0)) := heap_alloc_at
  have hb1 : Below w.heap.size w (w.alloc (.cells (recC r) 35)) := (Below.refl _ _).alloc (Nat.le_refl _) _
  have hz1 : (w.alloc (.cells (recC r) 35)).heap.size = w.heap.size + 1 := by simp
  generalize hw1 : w.alloc (.cells (recC r) 35) = w1 at hbx hb1 hz1
  have hbz : (w1.alloc (.cells (docF 0 (fun _ => 0) (fun _ => false)) 53)).heap[w1.heap.size]? = some (.cells (docF 0 (fun _ => 0) (fun _ => false)) 53 (0, 0)) := heap_alloc_at
  have hb2 : Below w1.heap.size w1 (w1.alloc (.cells (docF 0 (fun _ => 0) (fun _ => false)) 53)) := (Below.refl _ _).alloc (Nat.le_refl _) _
  have hz2 : (w1.alloc (.cells (docF 0 (fun _ => 0) (fun _ => false)) 53)).heap.size = w1.heap.size + 1 := by simp
  generalize hw2 : w1.alloc (.cells (docF 0 (fun _ => 0) (fun _ => false)) 53) = w2 at hbz hb2 hz2
  rw [docF_z] at hw2
  have hbx2 := (hb2.block w.heap.size (by omega)).trans hbx
  have HB : Hid (Below w.heap.size w w2) := Lib.hid (hb1.trans (hb2.mono (by omega)))
  have HZ1 := Lib.hid hz1
  have HZ2 := Lib.hid hz2
  have HBX := Lib.hid hbx2
  have HBZ := Lib.hid hbz
  have q0 : w2.cell? ⟨w.heap.size, 0, none⟩ = some (.int .u64 (r.boot : Nat)) := cell_of hbx2 (recC_0 r)
  have hbd := built_doc r.boot
  have haD0 := aggD (b := r.boot) (s := fun _ => 0) (h := fun _ => false)
  have hon0 := docF_one (b := r.boot) (s := fun _ => 0) (h := fun _ => false)
  clear hbx hb1 hb2 hz1 hz2 hbz hbx2
  go_enter Tryz.func14, Tryz.ntmps14
  go_upto_region 1 with fail
  clear hw1 hw2
  generalize hbs : r.boot = bs at q0 hbd haD0 hon0
  have HBS := Lib.hid hbs
  clear hbs
  have hk3 : (w2.alloc (.cells (docF bs (fun _ => 0) (fun _ => false)) 53)).heap[w2.heap.size]? = some (.cells (docF bs (fun _ => 0) (fun _ => false)) 53 (0, 0)) := heap_alloc_at
  have hb3 : Below w2.heap.size w2 (w2.alloc (.cells (docF bs (fun _ => 0) (fun _ => false)) 53)) := (Below.refl _ _).alloc (Nat.le_refl _) _
  have HK3 := Lib.hid hk3
  have HB3 := Lib.hid hb3
  clear hk3 hb3
  go_upto_region 2 with (first
    | ((with_reducible refine wpList_exec rfl (exec_buildA (vals := [(0, .int .u64 (bs : Nat))]) ?_ hbd) ?_); rfl; go_frame)
    | ((with_reducible refine wpList_storeA_new haD0 ?_ hon0 ?_ ?_ ?_); rfl; rfl; rfl; go_frame)
    | fail)
  generalize w2.alloc (.cells (docF bs (fun _ => 0) (fun _ => false)) 53) = w3 at *
  generalize hbk : w2.heap.size = bx at *
  have HBX3 := Lib.hid ((HB3.out.block w.heap.size (by have := HZ2.out; have := HZ1.out; omega)).trans HBX.out)
  have HBZ3 := Lib.hid ((HB3.out.block w1.heap.size (by have := HZ2.out; omega)).trans HBZ.out)
  have HL := Lib.hid hl
  clear hbk q0 hbd hl
  go_wp2_with fail
  go_loopw [4] (fun iv wi => ∃ i : Nat, i ≤ 8 ∧ iv = .int .i64 i ∧ wi.heap[bx]? = some (.cells (docF bs (cutS r i) (cutH r i)) 53 (0, 0)) ∧ Mod (fun x => x = bx) w3 wi) (fun iv _ => 8 - (intOf iv).toNat)
  case atStart => exact ⟨0, Nat.zero_le _, rfl, HK3.out, Mod.refl _ _⟩
  case round =>
    obtain ⟨i, hi, rfl, hk, hm⟩ := hrel
    have hne1 : ¬ w.heap.size = bx := by have := HZ2.out; have := HZ1.out; omega
    have hne2 : ¬ w1.heap.size = bx := by have := HZ2.out; omega
    have hx := hm.heap HBX3.out hne1
    by_cases hi8 : i < 8
    · have hi8' : (i : Int) < 8 := by omega
      obtain ⟨l0, l1⟩ : wr.drew.cell? ⟨w.heap.size, 1 + i * 2, none⟩ = some (.int .u64 (r.ses i : Nat)) ∧ wr.drew.cell? ⟨w.heap.size, 1 + i * 2 + 1, none⟩ = some (.bool (r.hol i)) :=
        ⟨cell_of (w := wr.drew) hx (by rw [show 1 + i * 2 = 1 + (i * 2 + 0) by omega, recL_c r (Rec.get_cl HL.out hi8) (by decide)]; rfl), cell_of (w := wr.drew) hx (by rw [show 1 + i * 2 + 1 = 1 + (i * 2 + 1) by omega, recL_c r (Rec.get_cl HL.out hi8) (by decide)]; rfl)⟩
      have hcn := cut_next r hi8
      rw [HBS.out] at hcn
      have hk' : wr.drew.heap[bx]? = some (.cells (docF bs (cutS r i) (cutH r i)) 53 (0, 0)) := hk
      have hc1 : wr.drew.cell? ⟨bx, 1 + i, none⟩ = some (.int .u64 (cutS r i i : Nat)) := cell_of hk' (docF_s hi8)
      have hf1 : wr.drew.frozen? ⟨bx, 1 + i, none⟩ = false := free_of hk'
      have hk2 : (wr.drew.setCell ⟨bx, 1 + i, none⟩ (.int .u64 (r.ses i : Nat))).heap[bx]? = _ := heap_setCell_at hk'
      have hc2 : (wr.drew.setCell ⟨bx, 1 + i, none⟩ (.int .u64 (r.ses i : Nat))).cell? ⟨bx, 9 + i, none⟩ = some (.bool (cutH r i i)) := cell_of hk2 (by rw [Array.getElem?_setIfInBounds, if_neg (by omega)]; exact docF_h hi8)
      have hf2 : (wr.drew.setCell ⟨bx, 1 + i, none⟩ (.int .u64 (r.ses i : Nat))).frozen? ⟨bx, 9 + i, none⟩ = false := free_of hk2
      have hk3 : ((wr.drew.setCell ⟨bx, 1 + i, none⟩ (.int .u64 (r.ses i : Nat))).setCell ⟨bx, 9 + i, none⟩ (.bool (r.hol i))).heap[bx]? = some (.cells (docF bs (cutS r (i + 1)) (cutH r (i + 1))) 53 (0, 0)) := by
        rw [heap_setCell_at hk2, hcn]
      have hm3 := (hm.drew.setCell ⟨bx, 1 + i, none⟩ (.int .u64 (r.ses i : Nat)) (fun _ => rfl)).setCell ⟨bx, 9 + i, none⟩ (.bool (r.hol i)) (fun _ => rfl)
      have HK9 := Lib.hid hk3
      have HM9 := Lib.hid hm3
      clear hcn hk hk' hk2 hk3 hm hm3 hx hne1 hne2
      generalize r.ses i = si at *
      generalize r.hol i = hh at *
      go_upto_region 5 with fail
      have hS : wr.drew.cell? ⟨w.heap.size, 1 + i * 2, none⟩ = some (.int .u64 (si : Nat)) ∧ wr.drew.cell? ⟨w.heap.size, 1 + i * 2 + 1, none⟩ = some (.bool hh) := ⟨l0, l1⟩
      refine wp_region_x (fun w' => w'.cell? ⟨w.heap.size, 1 + i * 2, none⟩ = some (.int .u64 (si : Nat)) ∧ w'.cell? ⟨w.heap.size, 1 + i * 2 + 1, none⟩ = some (.bool hh)) [(0, 1), (1, 1), (2, 1), (3, 1), (4, 1), (5, 1), (6, 0), (7, 1), (8, 1), (9, 1), (10, 1), (11, 0), (12, 1), (13, 1), (15, 1), (14, 2), (16, 1), (17, 3)] (by kernel_rfl) (by kernel_rfl) (by intro d v c a w h; cases d <;> exact h) ?_
      iterate 6 (refine x_take rfl (fun K hK => ?_); go_simp; refine hK _ ?_; clear hK K)
      refine x_read rfl hS (fun w' h => exec_load1 ⟨⟨_, Tryz.underlying30, rfl⟩⟩ rfl h.1) ?_
      iterate 4 (refine x_take rfl (fun K hK => ?_); go_simp; refine hK _ ?_; clear hK K)
      refine x_read rfl hS (fun w' h => exec_load1 ⟨⟨_, Tryz.underlying4, rfl⟩⟩ rfl h.2) ?_
      iterate 3 (refine x_take rfl (fun K hK => ?_); go_simp; refine hK _ ?_; clear hK K)
      have hmS := (Mod.refl (fun x => x = bx) wr.drew).setCell ⟨bx, 1 + i, none⟩ (.int .u64 (si : Nat)) (fun _ => rfl)
      refine x_skipS rfl (exec_store1 (v := .int .u64 (si : Nat)) ⟨⟨_, Tryz.underlying30, rfl⟩⟩ (by kernel_rfl) rfl rfl rfl hc1 hf1) ⟨cell_mod hS.1 hmS (fun e => by have := HZ2.out; have := HZ1.out; omega), cell_mod hS.2 hmS (fun e => by have := HZ2.out; have := HZ1.out; omega)⟩ ?_
      clear hmS
      iterate 1 (refine x_take rfl (fun K hK => ?_); go_simp; refine hK _ ?_; clear hK K)
      refine x_skip rfl (exec_store1 (v := .bool hh) ⟨⟨_, Tryz.underlying4, rfl⟩⟩ (by kernel_rfl) rfl rfl rfl hc2 hf2) ?_
      refine x_nil ?_
      clear hS l0 l1 hc1 hf1 hc2 hf2
      go_wp2
      go_roundw
      case rel => exact ⟨i + 1, by omega, by go_num, HK9.out, HM9.out⟩
      case measure => simp [intOf]; omega
    · obtain rfl : i = 8 := by omega
      have hall := cut_all r
      rw [HBS.out] at hall
      rw [hall] at hk
      have hr := hm.heap HBZ3.out hne2
      have hLD := lies_of hk
      have haD := aggD (b := r.boot) (s := r.ses) (h := r.hol)
      have honD := docF_one (b := r.boot) (s := r.ses) (h := r.hol)
      unfold docC at hLD
      have HM := Lib.hid hm
      clear hall hk hm hx hne1 hne2 haD0 hon0
      go_wp2_with (first
        | ((with_reducible refine wpList_loadA haD hLD ?_ ?_); rfl; go_frame)
        | ((with_reducible refine wpList_storeB haD ?_ ?_ hr rfl honD ?_); rfl; rfl; (intro w9 hh9 hm9; have HH9 := Lib.hid hh9; have HM9 := Lib.hid hm9; clear hh9 hm9); go_frame)
        | fail)
      refine bodyPost_ret (results_cellA rfl _ rfl haD (lies_of HH9.out)) rfl ?_
      refine ⟨rfl, ?_⟩
      have h1 : Below w.heap.size w w3 := HB.out.trans (HB3.out.mono (by have := HZ2.out; have := HZ1.out; omega))
      refine (h1.trans (HM.out.below h1.size fun x hx e => by have := HZ2.out; have := HZ1.out; omega)).trans (HM9.out.below (Nat.le_trans h1.size HM.out.size) fun x hx e => by have := HZ1.out; omega)
end Go.Proofs.YtipbaajdnnddgaaGreat

/- VaultKept: plain: what a call leaves, with the power on, off; what a crash leaves. -/
namespace Go.Proofs.YtipbaajdnnddgaaGreat
open Go.RowKit Go.Tn Go.Tn.Bt Go.Tn.Lp Go.Tn.Dk Go.Tn.Ino
section
variable {i : Nat} {l : Lg} {d : Dsk} {r : Rec}
theorem stSync_Q (l : Lg) (d : Dsk) : (stSync l d).2.1.Q.length ≤ d.Q.length ∧ (stSync l d).2.1.L.length = d.L.length := lsync_Q
theorem stPut_Q (l : Lg) {d : Dsk} (ps : List Pt) (hd : d.L.length ≤ 4096) : (stPut l d ps).2.1.Q.length ≤ d.Q.length + 15000 ∧ (stPut l d ps).2.1.L.length = d.L.length := by
  obtain ⟨a1, a2⟩ := lwrite_Q (l := l) (d := d) (ps := ps)
  by_cases h0 : (l.write d ps).2.2 = 0
  · rw [stPut_0 h0]
    obtain ⟨b1, b2⟩ := stSync_Q (l.write d ps).1 (l.write d ps).2.1
    omega
  · by_cases h8 : (l.write d ps).2.2 = 8
    · rw [stPut_8 h8]
      obtain ⟨c1, c2⟩ := lcheck_Q (l := l) (d := d) hd
      obtain ⟨e1, e2⟩ := lwrite_Q (l := (l.check d).1) (d := (l.check d).2.1) (ps := ps)
      split
      · omega
      · split
        · obtain ⟨b1, b2⟩ := stSync_Q ((l.check d).1.write (l.check d).2.1 ps).1 ((l.check d).1.write (l.check d).2.1 ps).2.1
          omega
        · omega
    · rw [stPut_no h0 h8]
      omega
/-- Another record is noted, or the power went off. -/
theorem VInv.putF (h : VInv i l d r) (hi : i ≤ 900) (hQ : d.Q.length ≤ 900000000) (r' : Rec) (hf : r'.fits) (hr : r'.right = true) :
    (((stPut l d [(0, r'.sec)]).2.2 = 0 ∧ VInv (i + 2) (stPut l d [(0, r'.sec)]).1 (stPut l d [(0, r'.sec)]).2.1 r') ∨
    ((stPut l d [(0, r'.sec)]).2.2 = 7 ∧ ∃ S, KDead 20 (i + 2) (stPut l d [(0, r'.sec)]).1 (stPut l d [(0, r'.sec)]).2.1 S ∧ ∀ x ∈ S, x = vHs r ∨ x = vHs r')) ∧
    ((l.write d [(0, r'.sec)]).2.2 = 8 → (l.check d).2.2 = 0 → (l.check d).1.ok (l.check d).2.1) := by
  obtain ⟨h1, h2⟩ := kput h.live hi (put0_trans h r' hf) (fun p hp => by rw [List.mem_singleton.1 hp]; exact sector_lt _) (put0_cut r' hf) hQ
  have hlen := (stPut_Q l [((0 : Int), r'.sec)] (d := d) (by rw [h.len]; decide)).2
  rw [h.homes, over0] at h1
  refine ⟨?_, h2⟩
  rcases h1 with ⟨a1, a2, a3⟩ | ⟨a1, S, a2, a3⟩
  · exact .inl ⟨a1, ⟨by rw [a3]; exact a2, a3, hf, hr, by rw [hlen, h.len]⟩⟩
  · exact .inr ⟨a1, S, a2, a3⟩
/-- Where the power is off nothing changes. -/
theorem put_dead {S : List (List (List Nat))} (h : KDead 20 i l d S) (ps : List Pt) : stPut l d ps = (l, d, 7) ∧ (l.write d ps).2.2 ≠ 8 := by
  have hw : l.write d ps = (l, d, 7) := by
    unfold Lg.write
    rw [if_pos (by rw [h.err]; decide), h.err]
  refine ⟨?_, by rw [hw]; show (7 : Nat) ≠ 8; decide⟩
  rw [stPut_no (by rw [hw]; show (7 : Nat) ≠ 0; decide) (by rw [hw]; show (7 : Nat) ≠ 8; decide), hw]
/-- How all stands behind calls: x is noted, or, where the power is off, maybe m. -/
inductive VMode (i : Nat) (l : Lg) (d : Dsk) (r x m : Rec) : Prop where
  | on (h : VInv i l d r) (hx : x = r) (hm : m = r)
  | off (S : List (List (List Nat))) (h : KDead 20 i l d S) (hS : ∀ y ∈ S, y = vHs x ∨ y = vHs m) (len : d.L.length = 80) (hr : r.right = true) (fx : x.fits) (rx : x.right = true) (fm : m.fits) (rm : m.right = true)
theorem VMode.ok {x m : Rec} (h : VMode i l d r x m) (hi : i ≤ 900) : l.ok d := by
  cases h with
  | on h => exact h.ok hi
  | off S h => exact KInv.ok (.inr h) (by omega)
theorem VMode.mono {x m : Rec} {j : Nat} (h : VMode i l d r x m) (hj : i ≤ j) : VMode j l d r x m := by
  cases h with
  | on h hx hm => exact .on (h.mono hj) hx hm
  | off S h hS len hr fx rx fm rm => exact .off S (h.mono hj) hS len hr fx rx fm rm
theorem VMode.len {x m : Rec} (h : VMode i l d r x m) : d.L.length = 80 := by
  cases h with
  | on h => exact h.len
  | off S h hS len => exact len
theorem VMode.right {x m : Rec} (h : VMode i l d r x m) : r.right = true := by
  cases h with
  | on h => exact h.right
  | off S h hS len hr => exact hr
theorem VMode.xfits {x m : Rec} (h : VMode i l d r x m) : (x.fits ∧ x.right = true) ∧ m.fits ∧ m.right = true := by
  cases h with
  | on h hx hm => rw [hx, hm]; exact ⟨⟨h.fits, h.right⟩, h.fits, h.right⟩
  | off S h hS len hr fx rx fm rm => exact ⟨⟨fx, rx⟩, fm, rm⟩
theorem VMode.offs {x m : Rec} (h : VMode i l d r x m) : (d.off = false ∧ VInv i l d r ∧ x = r ∧ m = r) ∨ (d.off = true ∧ ∃ S, KDead 20 i l d S) := by
  cases h with
  | on h hx hm => exact .inl ⟨h.live.on, h, hx, hm⟩
  | off S h => exact .inr ⟨h.off, S, h⟩
/-- A fuse is laid. -/
theorem VMode.arm {x m : Rec} (h : VMode i l d r x m) {n : Int} (hn : n < 9223372036854775808) : VMode i l (d.arm n) r x m := by
  have hL := (arm_L d n).1
  have hho : homesB l (d.arm n) = homesB l d := by
    unfold homesB Lg.homes
    rw [hL]
    refine List.map_congr_left fun k _ => ?_
    rw [home_getD, home_getD]
    have hg : ∀ j, (d.arm n).get j = d.get j := fun j => by
      obtain ⟨e1, e2⟩ := arm_L d n
      unfold Dsk.get
      rw [e1, e2]
    rw [hg]
  cases h with
  | on h hx hm =>
    refine .on ⟨?_, hho.trans h.homes, h.fits, h.right, by rw [hL]; exact h.len⟩ hx hm
    rw [hho]
    rcases KInv.arm (.inl h.live) hn with h' | h'
    · exact h'
    · exfalso
      have h1 := h'.off
      have h2 := h.live.on
      unfold Dsk.arm at h1
      split at h1
      · rw [h2] at h1; cases h1
      · have h1 : d.off = true := h1
        rw [h2] at h1; cases h1
  | off S h hS len hr fx rx fm rm =>
    rcases KInv.arm (.inr h) hn with h' | h'
    · exfalso
      have h1 := h'.on
      have h2 := h.off
      unfold Dsk.arm at h1
      rw [if_pos (.inr h2), h2] at h1
      cases h1
    · exact .off S h' hS (by rw [hL]; exact len) hr fx rx fm rm
theorem dcrash_quiet (d : Dsk) (keep : List Int) (torn : Int) : Quiet (d.crash keep torn) ∧ (d.crash keep torn).Q = [] := ⟨⟨⟨rfl, rfl⟩, trivial⟩, rfl⟩
/-- A crash, and the log opened anew: one of the two. -/
theorem VMode.crash {x m : Rec} (h : VMode i l d r x m) (hi : i ≤ 200) (keep : List Int) (torn : Int) :
    ∃ l2 r0, openB (d.crash keep torn) 20 = some l2 ∧ newestB (d.crash keep torn) (2 + 20) < 16777215 ∧ VInv (i + 1) l2 (d.crash keep torn) r0 ∧ (r0 = x ∨ r0 = m) := by
  have hlen := h.len
  have hcl := crash_L d keep torn
  cases h with
  | on h hx hm =>
    subst hx hm
    obtain ⟨l2, k1, k2, k3, k4⟩ := kcrash h.live.outs h.live.fitd.2 (by decide) (by rw [hlen]; decide) hi keep torn
    exact ⟨l2, _, k1, k2, ⟨k3, (List.mem_singleton.1 k4).trans h.homes, h.fits, h.right, by rw [hcl, hlen]⟩, .inl rfl⟩
  | off S h hS len hr fx rx fm rm =>
    obtain ⟨l2, k1, k2, k3, k4⟩ := kcrash h.outs h.dok (by decide) (by rw [hlen]; decide) hi keep torn
    rcases hS _ k4 with e | e
    · exact ⟨l2, _, k1, k2, ⟨k3, e, fx, rx, by rw [hcl, hlen]⟩, .inl rfl⟩
    · exact ⟨l2, _, k1, k2, ⟨k3, e, fm, rm, by rw [hcl, hlen]⟩, .inr rfl⟩
end
section
variable {w : World} {F FD : Nat → Prop} {v s g p : Nat} {i : Nat} {l : Lg} {d : Dsk} {r x m : Rec}
/-- A disk with a vault, the log known. -/
theorem vanew_any {l1 : Lg} (hd : DAt w FD p d) (h1 : openB d 20 = some l1) (h2 : newestB d (2 + 20) < 16777215) (h3 : VInv i l1 d r) (hi : i ≤ 900) (hq : Quiet d) (hQ : d.Q = []) (hb : r.boot < 1099511627775) : ∃ l2 d2, VInv (i + 2) l2 d2 r.up ∧ Quiet d2 ∧ d2.Q = [] ∧ Calls Tryz.prog 7 #[.pointer (some ⟨p, 0, none⟩), .int .i64 20] w fun e w' => VOpen w FD p l2 d2 r.up e w' := by
  obtain ⟨l2, d2, p1, p2, p3, p4, p5⟩ := h3.put (by omega) hq (by rw [hQ]; decide) r.up (up_fits h3.fits hb) h3.right
  have hL := h3.len
  have hfo := fopen_any hd 20 (by decide) (by rw [hL]; decide) (by rw [hL]; decide) (by decide) h2 h1 (h3.ok (by omega)) h3.live.rn (by rw [hQ]; decide) Ino.root (by rw [h3.h2]; exact root_dec) l1 d (.inl ⟨by decide, rfl, rfl⟩) h3.sound
  exact ⟨l2, d2, p2, p3, p4, vopen_any 20 hfo (fun b hb => hd.lt b hb) (h3.ok (by omega)) (by rw [h3.nh]; decide) h3.recd hb (by rw [hQ]; decide) p5 p1⟩
/-- What a call answers, and what is there behind it: y is the document's record, want its answer. -/
def VDid (i : Nat) (d : Dsk) (x m y : Rec) (want : Nat) (l' : Lg) (d' : Dsk) (r' : Rec) (cd : Nat) : Prop :=
  d'.Q.length ≤ d.Q.length + 15000 ∧ ((d.off = false ∧ d'.off = false ∧ cd = want ∧ VMode (i + 2) l' d' r' y y) ∨ (d.off = false ∧ d'.off = true ∧ VMode (i + 2) l' d' r' x y) ∨ (d.off = true ∧ d'.off = true ∧ VMode (i + 2) l' d' r' x m))
theorem set_step (hV : VAt w F FD v s g p l d r) (hM : VMode i l d r x m) (hi : i ≤ 900) (hQ : d.Q.length ≤ 800000000) (y : Rec) (hf : y.fits) (hr : y.right = true) (fn : Nat) (args : Array Value)
    (hcl : ((l.write d [(0, y.sec)]).2.2 = 8 → (l.check d).2.2 = 0 → (l.check d).1.ok (l.check d).2.1) → Calls Tryz.prog fn args w fun e w' => VPost w F FD v s g p (stPut l d [(0, y.sec)]) (setRec (stPut l d [(0, y.sec)]).2.2 y r) e w') (y' : Rec) (hy : d.off = false → y' = y) (hfy : y'.fits) (hry : y'.right = true) :
    ∃ l' d' cd r', VDid i d x m y' 0 l' d' r' cd ∧ Calls Tryz.prog fn args w fun e w' => VPost w F FD v s g p (l', d', cd) r' e w' := by
  have hlen := hM.len
  have hsq := (stPut_Q l [((0 : Int), y.sec)] (d := d) (by rw [hlen]; decide))
  cases hM with
  | on h hx hm =>
    subst hx hm
    obtain ⟨h1, h2⟩ := h.putF hi (by omega) y hf hr
    have hc := hcl h2
    have hy := hy h.live.on
    subst hy
    rcases h1 with ⟨a1, a2⟩ | ⟨a1, S, a2, a3⟩
    · rw [a1] at hc
      refine ⟨_, _, 0, _, ⟨hsq.1, .inl ⟨h.live.on, a2.live.on, rfl, .on a2 rfl rfl⟩⟩, hc.mono fun e w' hp => ?_⟩
      have hp : VPost w F FD v s g p (stPut l d [(0, y'.sec)]) y' e w' := hp
      unfold VPost at hp ⊢
      rw [a1] at hp
      exact hp
    · rw [a1] at hc
      refine ⟨_, _, 7, _, ⟨hsq.1, .inr (.inl ⟨h.live.on, a2.off, .off S a2 a3 (by rw [hsq.2, hlen]) h.right h.fits h.right hfy hry⟩)⟩, hc.mono fun e w' hp => ?_⟩
      have hp : VPost w F FD v s g p (stPut l d [(0, y'.sec)]) m e w' := hp
      unfold VPost at hp ⊢
      rw [a1] at hp
      exact hp
  | off S h hS len hr' fx rx fm rm =>
    obtain ⟨p1, p2⟩ := put_dead h [((0 : Int), y.sec)]
    have hc := hcl (fun e => absurd e p2)
    rw [p1] at hc
    exact ⟨l, d, 7, r, ⟨by omega, .inr (.inr ⟨h.off, h.off, (VMode.off S h hS len hr' fx rx fm rm).mono (by omega)⟩)⟩, hc⟩
theorem stay_step (hV : VAt w F FD v s g p l d r) (hM : VMode i l d r x m) (fn : Nat) (args : Array Value) (cd want : Nat) (hcl : Calls Tryz.prog fn args w fun e w' => e = .returned (.int .i64 (cd : Nat)) ∧ w' = w) (y : Rec) (hy : d.off = false → y = x ∧ cd = want) :
    ∃ l' d' cd r', VDid i d x m y want l' d' r' cd ∧ Calls Tryz.prog fn args w fun e w' => VPost w F FD v s g p (l', d', cd) r' e w' := by
  refine ⟨l, d, cd, r, ⟨by omega, ?_⟩, hcl.mono ?_⟩
  · rcases hM.offs with ⟨h1, h2, h3, h4⟩ | ⟨h1, S, h2⟩
    · obtain ⟨e1, e2⟩ := hy h1
      refine .inl ⟨h1, h1, e2, ?_⟩
      rw [e1, h3]
      exact .on (h2.mono (by omega)) rfl rfl
    · exact .inr (.inr ⟨h1, h1, hM.mono (by omega)⟩)
  · rintro e w' ⟨rfl, rfl⟩
    exact VPost.stay hV cd
theorem ses_step (hV : VAt w F FD v s g p l d r) (hM : VMode i l d r x m) (hi : i ≤ 900) (hQ : d.Q.length ≤ 800000000) (c : Int) (k : Nat) (hk : k < 18446744073709551616) (hc63 : -9223372036854775808 ≤ c ∧ c < 9223372036854775808) :
    ∃ l' d' cd r', VDid i d x m (sesR x c k) (if sesOk x c k then 0 else 2) l' d' r' cd ∧ Calls Tryz.prog 9 #[.pointer (some ⟨v, 0, none⟩), .int .i64 c, .int .u64 k] w fun e w' => VPost w F FD v s g p (l', d', cd) r' e w' := by
  by_cases h : sesOk r c k
  · have h0 := h
    obtain ⟨h1, h2, h3, h4⟩ := h
    obtain ⟨c, rfl⟩ := Int.eq_ofNat_of_zero_le h1
    rw [Int.toNat_natCast] at h3
    by_cases hoff : d.off = false
    · have hxr : x = r := by
        rcases hM.offs with ⟨_, _, h3, _⟩ | ⟨h1, _⟩
        · exact h3
        · rw [hoff] at h1; cases h1
      subst hxr
      rw [if_pos h0]
      have e : sesR x (c : Int) k = x.with_ c k false := by unfold sesR; rw [if_pos h0, Int.toNat_natCast]
      rw [e]
      exact set_step hV hM hi hQ _ (with_fits hV.rl (by omega)) (with_right hM.right (by omega)) _ _ (vsetsession_ok hV (hM.ok hi) hM.right c k (by omega) h3 h4 (by omega)) _ (fun _ => rfl) (with_fits hV.rl (by omega)) (with_right hM.right (by omega))
    · obtain ⟨l', d', cd, r', hD, hC⟩ := set_step hV hM hi hQ _ (with_fits hV.rl (by omega)) (with_right hM.right (by omega)) _ _ (vsetsession_ok hV (hM.ok hi) hM.right c k (by omega) h3 h4 (by omega)) x (fun e => absurd e hoff) hM.xfits.1.1 hM.xfits.1.2
      refine ⟨l', d', cd, r', ⟨hD.1, ?_⟩, hC⟩
      rcases hD.2 with ⟨e, -⟩ | ⟨e, -⟩ | h
      · exact absurd e hoff
      · exact absurd e hoff
      · exact .inr (.inr h)
  · refine stay_step hV hM _ _ 2 _ (vsetsession_no hV c k hk hc63 h) _ fun hoff => ?_
    have hxr : x = r := by
      rcases hM.offs with ⟨_, _, h3, _⟩ | ⟨h1, _⟩
      · exact h3
      · rw [hoff] at h1; cases h1
    subst hxr
    unfold sesR
    rw [if_neg h, if_neg h]
    exact ⟨rfl, rfl⟩
theorem hol_step (hV : VAt w F FD v s g p l d r) (hM : VMode i l d r x m) (hi : i ≤ 900) (hQ : d.Q.length ≤ 800000000) (c : Int) (b : Bool) (hc63 : -9223372036854775808 ≤ c ∧ c < 9223372036854775808) :
    ∃ l' d' cd r', VDid i d x m (holR x c b) (if holOk x c then 0 else 2) l' d' r' cd ∧ Calls Tryz.prog 10 #[.pointer (some ⟨v, 0, none⟩), .int .i64 c, .bool b] w fun e w' => VPost w F FD v s g p (l', d', cd) r' e w' := by
  have hxr : d.off = false → x = r := fun hoff => by
    rcases hM.offs with ⟨_, _, h3, _⟩ | ⟨h1, _⟩
    · exact h3
    · rw [hoff] at h1; cases h1
  by_cases h : holOk r c
  · have h0 := h
    obtain ⟨h1, h2, h3⟩ := h
    obtain ⟨c, rfl⟩ := Int.eq_ofNat_of_zero_le h1
    rw [Int.toNat_natCast] at h3
    have hc8 : c < 8 := by omega
    have hs40 : r.ses c < 1099511627776 := hV.rl.cl _ (List.mem_of_getElem? (Rec.get_cl hV.rl.len hc8))
    by_cases hb : r.hol c = b
    · subst hb
      refine stay_step hV hM _ _ 0 _ (vsetholds_same hV c hc8 h3) _ fun hoff => ?_
      have := hxr hoff
      subst this
      unfold holR
      rw [if_pos h0, if_pos h0, Int.toNat_natCast, with_same hV.rl.len hc8]
      exact ⟨rfl, rfl⟩
    · have hcl := vsetholds_ok hV (hM.ok hi) hM.right c b hc8 h3 hb (by omega)
      by_cases hoff : d.off = false
      · have := hxr hoff
        subst this
        rw [if_pos h0]
        have e : holR x (c : Int) b = x.with_ c (x.ses c) b := by unfold holR; rw [if_pos h0, Int.toNat_natCast]
        rw [e]
        exact set_step hV hM hi hQ _ (with_fits hV.rl hs40) (with_right hM.right h3) _ _ hcl _ (fun _ => rfl) (with_fits hV.rl hs40) (with_right hM.right h3)
      · obtain ⟨l', d', cd, r', hD, hC⟩ := set_step hV hM hi hQ _ (with_fits hV.rl hs40) (with_right hM.right h3) _ _ hcl x (fun e => absurd e hoff) hM.xfits.1.1 hM.xfits.1.2
        refine ⟨l', d', cd, r', ⟨hD.1, ?_⟩, hC⟩
        rcases hD.2 with ⟨e, -⟩ | ⟨e, -⟩ | h
        · exact absurd e hoff
        · exact absurd e hoff
        · exact .inr (.inr h)
  · refine stay_step hV hM _ _ 2 _ (vsetholds_no hV c b hc63 h) _ fun hoff => ?_
    have := hxr hoff
    subst this
    unfold holR
    rw [if_neg h, if_neg h]
    exact ⟨rfl, rfl⟩
end
end Go.Proofs.YtipbaajdnnddgaaGreat
